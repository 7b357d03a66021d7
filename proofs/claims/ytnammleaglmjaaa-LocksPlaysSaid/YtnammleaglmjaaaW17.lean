/- The reference plays as the plain words say, where there are locks and jobs enough. Conditions: at most 65 locks, at most 64 jobs, of sections of locks that there are. -/
import Derived.Test.YtnammleaglmjaaaW16
import Derived.Deep.RegionHeldLaw
namespace Go.Proofs.Ytnammleaglmjaaa
open Go.RowKit

theorem made_numL (n : Nat) : (madeCells #[.int .i64 0] n).toList = numL (fun _ => 0) n := by
  apply List.ext_getElem?
  intro i
  by_cases h : i < n
  · rw [numL_get _ h]
    simp [madeCells, h, Nat.mod_one]
  · rw [List.getElem?_eq_none (by simp [madeCells]; omega), List.getElem?_eq_none (by simp [numL]; omega)]

/-- A section's locks, made somewhere behind a world. -/
theorem rsec_there (a b : Int) (ord : Bool) (W wx : World) (S : List Int) (hS : secM a b ord = S) (h : Below W.heap.size W wx) :
    Calls Try.prog 18 #[.agg #[.int .i64 a, .int .i64 b], .bool ord] wx (fun e w' => ∃ sb so c, e = .returned (.slice (some ⟨sb, so, none⟩) S.length c) ∧ IsInts w' (.slice (some ⟨sb, so, none⟩) S.length c) S ∧ S.length ≤ c ∧ W.heap.size ≤ sb ∧ Below W.heap.size W w' ∧ (∀ i, i < S.length → w'.cell? ⟨sb, so + i, none⟩ = some (.int .i64 (nth S i)))) := by
  subst hS
  refine (rsec_any a b ord wx).mono ?_
  rintro e w4 ⟨ao4, c4, rfl, hI4, hle4, hF4, hB4⟩
  obtain ⟨ao5, c5, e5, hz5 | ⟨sb, so, rfl, hcs⟩⟩ := id hI4
  · have := (secM_len a b ord).1; omega
  injection e5 with e5 _ e6
  subst e5 e6
  refine ⟨sb, so, c4, rfl, hI4, hle4, ?_, h.trans (hB4.mono h.size), hcs⟩
  have := hF4 sb rfl
  have := h.size
  omega

/-- What a section holds is laid behind nothing: one step of a region that draws. -/
theorem step_hold {ops : Array Oper} {o : Oper} {a : Act} {w4 w : World} {K : Act → World → Prop} {Q : Exit → Act → World → Prop} {E : Prop} (hgd : o.guard = none) (s x : Operand)
    (ho : o.op = .call { callee := .builtin .append, args := #[s, x], argTypes := #[23, 23] }) (hw : Fr (fun _ => False) w4 w) (hs : a.eval s = .slice none 0 0) (X : List Int) (sb so c k : Nat) (hx : a.eval x = .slice (some ⟨sb, so, none⟩) k c)
    (hk : X.length = k) (hc : ∀ i, i < k → w4.cell? ⟨sb, so + i, none⟩ = some (.int .i64 (nth X i))) (hk2 : k ≤ 1000)
    (h : ∀ ao c' w5, IsInts w5 (.slice ao k c') X → From w4.heap.size (.slice ao k c') → Fr (fun _ => False) w4 w5 → K (a.put o.dst (.slice ao k c')) w5) :
    if Region.wanted o (yielded ops a.tmps) = true then Oper.wp Try.prog o a w K Q else E := by
  obtain ⟨i3, hi, hz0, hz1, hz2⟩ := info_parts Try.info3
  refine step_append_own2 w hgd s x 23 ho w4.heap.size 3 i3 (.int .i64 0) 1 8 Try.underlying23 hi hz0 hz1 hz2 rfl (by decide) (.slice none 0 0) 0 [] hs (World.ownsRow_nil _ _ _ _) ⟨sb, so, none⟩ k c (X.map (Value.int .i64)) hx (by simp [hk]) ?_ ?_ (by unfold maxLen; omega) (by omega) hw.size ?_
  · intro j u hj
    have hadd : (⟨sb, so, none⟩ : Addr).add j = ⟨sb, so + j, none⟩ := by unfold Addr.add; split <;> simp_all
    rw [hadd]
    obtain ⟨y, hy, rfl⟩ := List.getElem?_map .. ▸ hj |> Option.map_eq_some_iff.1
    have hjl := (List.getElem?_eq_some_iff.1 hy).1
    refine hw.cell ?_ (fun h => h)
    rw [hc j (by omega)]
    simp [nth, List.getD, hy]
  · intro u hu
    obtain ⟨y, _, rfl⟩ := List.mem_map.1 hu
    rfl
  · intro v' w5 hown hgr _
    obtain ⟨ao, c', rfl⟩ := owns_form hown
    rw [List.nil_append] at hown
    rw [Nat.zero_add] at hown ⊢
    refine h ao c' w5 ?_ (From.ofRow hown) (hw.grown hgr (fun _ h => by cases h))
    subst hk
    exact IsInts.ofRow hown

theorem two_one {ao : Option Addr} {k : Nat} (c : Nat) (x : Int) : ∀ u ∈ [Value.slice ao k c, .int .i64 x], u.oneCell' = true := by
  intro u hu
  rcases List.mem_cons.1 hu with rfl | hu
  · rfl
  · rcases List.mem_cons.1 hu with rfl | hu
    · rfl
    · cases hu

set_option maxHeartbeats 12800000 in
set_option maxRecDepth 100000 in
theorem rplay_main (n : Nat) (aj : Option Addr) (c : Nat) (ao : Option Addr) (c2 : Nat) (js : List (List (Int × Int))) (ord : Bool) (ps : List Int) (w : World) (hn : n ≤ 65) (hl : js.length ≤ 64) (hp : ps.length ≤ 1000)
   (jv : Nat → Value) (hj : ∀ i, i < js.length → IsJob w (jv i) (jobAt js i)) (hcj : ∀ i, i < js.length → ∃ b off, aj = some ⟨b, off, none⟩ ∧ w.cell? ⟨b, off + i, none⟩ = some (jv i)) (hr : rightM n js = true) (hc : cnt js js.length ≤ 1000) (hps : IsInts w (.slice ao ps.length c2) ps) :
    Calls Try.prog 6 #[.int .i64 (n : Int), .slice aj js.length c, .bool ord, .slice ao ps.length c2] w (Plays w (playM n js ord ps)) := by
  have hl' : (js.length : Int) ≤ 64 := by omega
  have hp' : (ps.length : Int) ≤ 20000 := by omega
  have Hj := Lib.hid hj
  have Hcj := Lib.hid hcj
  have Hr := Lib.hid hr
  have Hps := Lib.hid hps
  clear hj hcj hr hps
  have hnew : newM (n : Int) = (List.replicate n (-1), 0) := by simp [newM]; omega
  have Hnew := Lib.hid hnew
  clear hnew
  obtain ⟨i3, hi, hz0, hz1, hz2⟩ := info_parts Try.info3
  have Hi3 := Lib.hid hi
  have Hz03 := Lib.hid hz0
  have Hz13 := Lib.hid hz1
  have Hz23 := Lib.hid hz2
  clear hi hz0 hz1 hz2
  go_enter Try.func6, Try.ntmps6
  go_wp2_with fail
  refine (rnew_any _ _).mono ?_
  rw [Hnew.out]
  rintro e w1 hg
  obtain ⟨aol, cl, rfl, hil, hfl, hbl⟩ := hg.slice
  simp only [List.length_replicate, World.size_alloc] at hil hfl hbl
  clear hg
  simp only [List.length_replicate]
  have hs1 := hbl.size
  simp only [World.size_alloc] at hs1
  have k0 : w1.cell? ⟨w.heap.size, 0, none⟩ = some (.slice none 0 0) := (hbl.cell (p := ⟨w.heap.size, 0, none⟩) (by simp)).trans (by simp)
  have k1 : w1.frozen? ⟨w.heap.size, 0, none⟩ = false := (hbl.frozen (p := ⟨w.heap.size, 0, none⟩) (by simp)).trans (by simp)
  have k2 := alloc_cell k0 (.cells #[.slice aol n cl] 29)
  have k3 := alloc_frozen (p := ⟨w.heap.size, 0, none⟩) (by simp only; omega) k1 (.cells #[.slice aol n cl] 29)
  have hBa : Below w.heap.size w (w1.alloc (.cells #[.slice aol n cl] 29)) := (((Below.refl _ _).alloc (Nat.le_refl _) _).trans (hbl.mono (by omega))).alloc (by omega) _
  obtain ⟨W, eW⟩ : ∃ W, W = w1.alloc (.cells #[.slice aol n cl] 29) := ⟨_, rfl⟩
  have hsW : w.heap.size < W.heap.size := by rw [eW]; simp; omega
  have HBa := Lib.hid (eW ▸ hBa)
  have K2 := Lib.hid (eW ▸ k2)
  have K3 := Lib.hid (eW ▸ k3)
  have EW := Lib.hid eW
  have Hil := Lib.hid hil
  have Hfl := Lib.hid hfl
  have Hbl := Lib.hid hbl
  clear k0 k1 hBa k2 k3 eW hbl hil hfl
  go_wp2_with fail
  rw [← EW.out]
  go_loopw [14] (fun i wi => ∃ k : Nat, k ≤ js.length ∧ i = .int .i64 k ∧ Hid (Below W.heap.size W wi)) (fun i _ => js.length - (intOf i).toNat)
  case atStart => exact ⟨0, Nat.zero_le _, rfl, Lib.hid (Below.refl _ _)⟩
  case round =>
    obtain ⟨k, hk, rfl, hB⟩ := hrel
    obtain ⟨wo, rfl⟩ : ∃ wo : World, wo = wr := ⟨_, rfl⟩
    by_cases hlt : k < js.length
    · obtain ⟨b, off, eb, h1⟩ := Hcj.out k hlt
      subst eb
      have hjk := Hj.out k hlt
      have hsc := (HBa.out.trans (hB.out.mono (by omega)))
      have h2 := (hsc.cell (p := ⟨b, off + k, none⟩) (World.block_lt_of_cell? w _ h1)).trans h1
      have hjk2 := hjk.grow (hsc.mono (Nat.le_refl _))
      have hok := fun j hj => jobs_right (j := j) Hr.out hlt hj
      obtain ⟨l, el⟩ : ∃ l, l = jobAt js k := ⟨_, rfl⟩
      rw [← el] at hjk2 hok
      obtain ⟨aoj, cj, ej, hcells⟩ := hjk2.form
      have HC := Lib.hid hcells
      have Hok := Lib.hid hok
      have hll : l.length ≤ 1000 := by
        have e1 := cnt_succ js k hlt
        have e2 := cnt_le js (k + 1)
        have e3 : (jobAt js k).length = (js.getD k []).length := rfl
        rw [el]; omega
      rw [ej] at h2
      clear h1 hjk hsc hjk2 ej el hcells hok
      go_wp2_with fail
      go_loopw [15] (fun i wi => ∃ j : Nat, j ≤ l.length ∧ i = .int .i64 j ∧ Hid (Below wo.heap.size wo wi)) (fun i _ => l.length - (intOf i).toNat)
      case atStart => exact ⟨0, Nat.zero_le _, rfl, Lib.hid (Below.refl _ _)⟩
      case round =>
        obtain ⟨j, hj, rfl, hBj⟩ := hrel
        have h3 := (hBj.out.cell (p := ⟨b, off + k, none⟩) (World.block_lt_of_cell? wo _ h2)).trans h2
        have hWo := hB.out.size
        clear h2
        by_cases hjl : j < l.length
        · rcases HC.out with h0 | ⟨jb, jo, rfl, hcc⟩
          · omega
          obtain ⟨x, y, exy⟩ : ∃ x y, l.getD j (0, 0) = (x, y) := ⟨_, _, rfl⟩
          have hx := (hcc j hjl).1
          have hy := (hcc j hjl).2
          have hk2 := Hok.out j hjl
          rw [exy] at hx hy hk2
          unfold okSec at hk2
          simp only [Bool.and_eq_true, decide_eq_true_eq] at hk2
          have hx := (hBj.out.cell (p := ⟨jb, jo + j * 2, none⟩) (World.block_lt_of_cell? wo _ hx)).trans hx
          have hy := (hBj.out.cell (p := ⟨jb, jo + j * 2 + 1, none⟩) (World.block_lt_of_cell? wo _ hy)).trans hy
          have g1 : ¬ min x y < 0 := by omega
          have g2 : ¬ (n : Int) ≤ max x y := by omega
          clear hcc exy hk2
          go_wp2_with fail
          go_quiet (first | (go_at_call 17; refine Calls.quiet_of_same ((rpair_any _ _ _).mono fun e w' h => ⟨h.1, h.2.symm⟩)))
          go_wp2_with fail
          go_roundw
          case rel => exact ⟨j + 1, by omega, by go_num, Lib.hid (hBj.out.trans (drewN_below _ _ _))⟩
          case measure => simp [intOf]; omega
        · obtain rfl : j = l.length := by omega
          go_wp2_with fail
          go_roundw
          case rel => exact ⟨k + 1, by omega, by go_num, Lib.hid (hB.out.trans (hBj.out.mono hWo))⟩
          case measure => simp [intOf]; omega
    · obtain rfl : k = js.length := by omega
      go_wp2_with (at_make; refine wpList_make_full _ rfl (.tmp 95) (.tmp 95) 23 rfl wo.heap.size 3 i3 _ 1 Try.underlying23 Hi3.out Hz03.out Hz13.out .i64 .i64 _ _ js.length rfl rfl rfl rfl ?_ ?_ ?_ ?_)
      · rw [Hz23.out]; omega
      · unfold maxLen; omega
      · exact Nat.le_refl _
      intro w3 hown3 hgr3
      go_wp2_with (at_make; refine wpList_make_full _ rfl (.tmp 98) (.tmp 98) 23 rfl w3.heap.size 3 i3 _ 1 Try.underlying23 Hi3.out Hz03.out Hz13.out .i64 .i64 _ _ js.length rfl rfl rfl rfl ?_ ?_ ?_ ?_)
      · rw [Hz23.out]; omega
      · unfold maxLen; omega
      · exact Nat.le_refl _
      intro w4 hown4 hgr4
      rw [made_numL] at hown3 hown4
      have hP : RI w w4 w1.heap.size wo.heap.size w3.heap.size js.length (startM n) (.slice none 0 0) := by
        have hn1 : (startM (n : Int)).own = List.replicate n (-1) := by show (newM (n : Int)).1 = _; rw [Hnew.out]
        have hf4 : Fr (fun _ => False) w3 w4 := (Fr.refl _ _).grown hgr4 (fun _ h => by cases h)
        have hf3 : Fr (fun _ => False) wo w3 := (Fr.refl _ _).grown hgr3 (fun _ h => by cases h)
        have hf2 : Fr (fun _ => False) W wo := Fr.ofBelow hB.out
        have hfb : Fr (fun _ => False) W w4 := hf2.trans (hf3.trans hf4)
        have hWo := hB.out.size
        have hW1 : W.heap.size = w1.heap.size + 1 := by rw [EW.out]; simp
        have h3 := (hown3.lt wo.heap.size rfl).2
        have hs3 := hf3.size
        refine ⟨((HBa.out.trans (hB.out.mono (by omega))).grown hgr3 (by omega) (fun k h => by cases h)).grown hgr4 (by omega) (fun k h => by cases h), by omega, by omega, by omega, hfb.cell K2.out (fun h => h), (hfb.frozen (by simp only; omega) (fun h => h)).trans K3.out, ?_, (hfb.frozen (by simp only; omega) (fun h => h)).trans (by rw [EW.out]; exact new_frozen rfl), owns_fr hown3 hf4 (fun _ _ h => h), hown4, World.ownsRow_nil _ _ _ _⟩
        rw [hn1, List.length_replicate]
        refine ⟨aol, cl, hfb.cell (by rw [EW.out]; exact new_cell rfl rfl) (fun h => h), ?_, fun h0 q hq => ?_⟩
        · have h9 := Hil.out.alloc (.cells #[.slice aol n cl] 29)
          rw [← EW.out] at h9
          exact h9.fr hfb (fun _ _ h => h)
        · have h5 := Hfl.out q hq
          have h6 := ints_lt Hil.out (by simpa using h0) hq
          exact ⟨by omega, by omega, by omega, by omega, by simp [Value.ownBlock]⟩
      have HP := Lib.hid hP
      obtain ⟨Lb, eL⟩ : ∃ Lb, Lb = w1.heap.size := ⟨_, rfl⟩
      obtain ⟨Tb, eT⟩ : ∃ Tb, Tb = wo.heap.size := ⟨_, rfl⟩
      obtain ⟨Hb, eH⟩ : ∃ Hb, Hb = w3.heap.size := ⟨_, rfl⟩
      rw [← eL, ← eT, ← eH] at HP
      have EL := Lib.hid eL
      have ET := Lib.hid eT
      have EH := Lib.hid eH
      clear hown3 hgr3 hown4 hgr4 hP eL eT eH hs1 hB hsW K2 K3 Hil Hfl Hbl HBa
      go_wp2_with fail
      rw [← EL.out, ← ET.out, ← EH.out]
      clear EL ET EH EW
      go_loopw [20, 21] (fun dv i wi => ∃ k : Nat, k ≤ ps.length ∧ i = .int .i64 k ∧ Hid (RI w wi Lb Tb Hb js.length (runM js ord (startM n) (ps.take k)) dv)) (fun _ i _ => ps.length - (intOf i).toNat)
      case atStart => exact ⟨0, Nat.zero_le _, rfl, HP⟩
      case round =>
        obtain ⟨k, hk, rfl, hRI⟩ := hrel
        obtain ⟨wp, rfl⟩ : ∃ wp : World, wp = wr := ⟨_, rfl⟩
        clear HP
        by_cases hlt : k < ps.length
        · have hsu := runM_succ js ord (startM n) ps k hlt
          obtain ⟨ao', cap', e1, hz | ⟨pb, po, rfl, hcp⟩⟩ := id Hps.out
          · omega
          have hcp1 := hcp k hlt
          have hcp2 := (hRI.out.below.cell (p := ⟨pb, po + k, none⟩) (World.block_lt_of_cell? w _ hcp1)).trans hcp1
          injection e1 with e1 e2 e3
          subst e1 e3
          clear hcp hcp1 e2
          obtain ⟨p, ep⟩ : ∃ p, p = nth ps k := ⟨_, rfl⟩
          obtain ⟨st, est⟩ : ∃ st, st = runM js ord (startM n) (ps.take k) := ⟨_, rfl⟩
          have hsi := sInv_run js ord n ps k hk
          rw [← ep] at hcp2 hsu
          rw [← est] at hRI hsu hsi
          have Hsu := Lib.hid hsu
          have Hsi := Lib.hid hsi
          clear hsu hsi ep est
          by_cases h1 : p < 0
          · have hst : stepM js ord st p = st := by unfold stepM; rw [if_pos (.inl h1)]
            have Hst := Lib.hid hst
            clear hst
            go_wp2_with fail
            go_quiet (fail)
            go_wp2_with fail
            go_roundw
            case rel => exact ⟨k + 1, by omega, by go_num, by rw [Hsu.out, Hst.out]; exact Lib.hid (hRI.out.grow (drewN_below _ _ _))⟩
            case measure => simp [intOf]; omega
          · by_cases h2 : (js.length : Int) ≤ p
            · have hst : stepM js ord st p = st := by unfold stepM; rw [if_pos (.inr h2)]
              have Hst := Lib.hid hst
              have d1 : decide (p < 0) = false := by simpa using h1
              have d2 : decide ((js.length : Int) ≤ p) = true := by simpa using h2
              clear hst h1 h2
              go_wp2_with fail
              go_quiet (fail)
              go_wp2_with fail
              go_roundw
              case rel => exact ⟨k + 1, by omega, by go_num, by rw [Hsu.out, Hst.out]; exact Lib.hid (hRI.out.grow (drewN_below _ _ _))⟩
              case measure => simp [intOf]; omega
            · obtain ⟨q, rfl⟩ := Int.eq_ofNat_of_zero_le (show 0 ≤ p by omega)
              have hq : q < js.length := by omega
              obtain ⟨hc1, hc2, hf1, hf2⟩ := hRI.out.cells hq
              have hjq := (Hj.out q hq).grow (hRI.out.below)
              obtain ⟨b, off, eb, h0c⟩ := Hcj.out q hq
              subst eb
              have hc0 := (hRI.out.below.cell (p := ⟨b, off + q, none⟩) (World.block_lt_of_cell? w _ h0c)).trans h0c
              have hbw := World.block_lt_of_cell? wp _ hc0
              simp only at hbw
              have hHlt := hRI.out.lt
              have hat := Hsi.out.at_ q hq
              obtain ⟨l, el⟩ : ∃ l, l = jobAt js q := ⟨_, rfl⟩
              rw [← el] at hjq hat
              obtain ⟨aoj, cj, ej, hcells⟩ := hjq.form
              have HC := Lib.hid hcells
              have El := Lib.hid el
              rw [ej] at hc0
              clear h0c hjq hcells ej el
              have d1 : decide ((q : Int) < 0) = false := by simp
              have d2 : decide ((js.length : Int) ≤ (q : Int)) = false := by simp; omega
              have hq2 : ¬ js.length ≤ q := by omega
              clear h1 h2
              by_cases h3 : st.at_ q < l.length
              · rcases HC.out with h0 | ⟨jb, jo, rfl, hcc⟩
                · omega
                obtain ⟨x, y, exy⟩ : ∃ x y, l.getD (st.at_ q) (0, 0) = (x, y) := ⟨_, _, rfl⟩
                have hx := (hcc _ h3).1
                have hy := (hcc _ h3).2
                rw [exy] at hx hy
                have hbx := World.block_lt_of_cell? wp _ hx
                simp only at hbx
                obtain ⟨S, eS⟩ : ∃ S, secM x y ord = S := ⟨_, rfl⟩
                have hsS : secAt js ord st q = S := by unfold secAt; rw [← El.out, exy]; exact eS
                have hS1 : S.length ≤ 2 := by rw [← eS]; exact (secM_len _ _ _).2
                have hS0 : 1 ≤ S.length := by rw [← eS]; exact (secM_len _ _ _).1
                have hst : stepM js ord st (q : Int) = if st.has q < S.length then
                    if (takeM st.own (nth S (st.has q)) q).2 = 0 then
                      { st with own := (takeM st.own (nth S (st.has q)) q).1, has := upd st.has q (st.has q + 1) }
                    else st
                  else { own := giveAll st.own S q, at_ := upd st.at_ q (st.at_ q + 1), has := upd st.has q 0, dn := st.dn ++ [(q : Int)] } := by
                  unfold stepM
                  rw [if_neg (show ¬ ((q : Int) < 0 ∨ (js.length : Int) ≤ (q : Int)) from by omega), Int.toNat_natCast, if_pos (by rw [← El.out]; exact h3), hsS]
                have hsec := fun wx hb => rsec_there x y ord wp wx S eS hb
                have Hsec := Lib.hid hsec
                have d3 : decide ((l.length : Int) ≤ (st.at_ q : Int)) = false := by simp; omega
                have h3n : ¬ l.length ≤ st.at_ q := by omega
                have hTlt := hRI.out.o3
                have hLlt := hRI.out.o2
                clear hcc exy hsS hsec hat eS
                by_cases h4 : st.has q < S.length
                · rw [if_pos h4] at hst
                  have Hst := Lib.hid hst
                  have h4' : (st.has q : Int) < S.length := by omega
                  clear hst
                  go_wp2_with fail
                  go_quiet (fail)
                  go_wp2_with fail
                  go_region_held3 (fun w' => w'.cell? ⟨b, off + q, none⟩ = some (.slice (some ⟨jb, jo, none⟩) l.length cj) ∧ w'.cell? ⟨Tb, q, none⟩ = some (.int .i64 (st.at_ q : Int)) ∧ w'.cell? ⟨jb, jo + st.at_ q * 2, none⟩ = some (.int .i64 x) ∧ w'.cell? ⟨jb, jo + st.at_ q * 2 + 1, none⟩ = some (.int .i64 y)) (first | go_keep | exact ⟨k1, k2, k3, k4⟩) ((go_at_call 18; refine (Hsec.out _ (drewN_below _ wp _)).mono ?_; rintro e w4 ⟨sb, so, c4, rfl, hI4, hle4, hF4, hB4, hcs⟩; have k1 := (hB4.cell (p := ⟨b, off + q, none⟩) hbw).trans hc0; have k2 := (hB4.cell (p := ⟨Tb, q, none⟩) (show Tb < _ by omega)).trans hc1; have k3 := (hB4.cell (p := ⟨jb, jo + st.at_ q * 2, none⟩) hbx).trans hx; have k4 := (hB4.cell (p := ⟨jb, jo + st.at_ q * 2 + 1, none⟩) hbx).trans hy))
                  clear k1 k2 k3 k4 hx hy hc0 Hsec hc1 hc2 hf1 hf2
                  have hP4 := hRI.out.grow hB4
                  have HP4 := Lib.hid hP4
                  obtain ⟨hd1, hd2, hg1, hg2⟩ := hP4.cells hq
                  obtain ⟨aol, cl, hl1, hl2, hl3⟩ := hP4.lv
                  have hl5 := hP4.lf
                  have HL2 := Lib.hid hl2
                  have HL3 := Lib.hid hl3
                  have hs1 := hcs (st.has q) h4
                  have HI4 := Lib.hid hI4
                  clear hcs hI4 hP4 hRI hl2 hl3
                  go_wp2_with fail
                  have hblk := World.block_lt_of_cell? w4 _ hs1
                  simp only at hblk
                  have hAw := HP4.out.lt
                  have ho1 := HP4.out.o1
                  have ho2 := HP4.out.o2
                  have ho3 := HP4.out.o3
                  have hLw : Lb < w4.heap.size := by omega
                  have hn1 : (⟨w4.heap.size, 0, none⟩ : Addr) ≠ ⟨Lb, 0, none⟩ := by intro e; injection e with e; omega
                  have hn2 : (⟨w4.heap.size, 0, none⟩ : Addr) ≠ ⟨Hb, q, none⟩ := by intro e; injection e with e; omega
                  have hn3 : (⟨w4.heap.size, 0, none⟩ : Addr) ≠ ⟨sb, so + st.has q, none⟩ := by intro e; injection e with e; omega
                  have Hn1 := Lib.hid hn1
                  have Hn2 := Lib.hid hn2
                  have Hn3 := Lib.hid hn3
                  clear hn1 hn2 hn3
                  obtain ⟨X, R, hXR⟩ : ∃ X R, takeM st.own (nth S (st.has q)) q = (X, R) := ⟨_, _, rfl⟩
                  have HXR := Lib.hid hXR
                  have htk : ∀ wx, Below w4.heap.size w4 wx → Calls Try.prog 19 #[.agg #[.slice aol st.own.length cl], .int .i64 (nth S (st.has q)), .int .i64 (q : Int)] wx
                      (fun e w' => ∃ ao c, e = .returned (.tuple #[.agg #[.slice ao X.length c], .int .i64 R]) ∧ IsInts w' (.slice ao X.length c) X ∧ From wx.heap.size (.slice ao X.length c) ∧ Below wx.heap.size wx w' ∧ Below w4.heap.size w4 w') := by
                    intro wx hwx
                    refine (rtake_any _ st.own _ _ _ (HL2.out.grow hwx) (by have := Hsi.out.own; omega)).mono fun e w' hg => ?_
                    have := hg.slice
                    rw [HXR.out] at this
                    obtain ⟨ao, c, t1, t2, t3, t4⟩ := this
                    exact ⟨ao, c, t1, t2, t3, t4, hwx.trans (t4.mono hwx.size)⟩
                  have Htk := Lib.hid htk
                  clear htk hXR
                  have hsh : stepM js ord st (q : Int) = if R = 0 then { st with own := X, has := upd st.has q (st.has q + 1) } else st := by rw [Hst.out, HXR.out]
                  have Hsh := Lib.hid hsh
                  clear hsh
                  by_cases hR : R = 0
                  · have hR' : (R == 0) = true := by simpa using hR
                    have HR := Lib.hid hR
                    clear hR
                    go_region_held3 (fun w' => w'.cell? ⟨Lb, 0, none⟩ = some (.slice aol st.own.length cl) ∧ w'.cell? ⟨Hb, q, none⟩ = some (.int .i64 (st.has q : Int)) ∧ w'.cell? ⟨sb, so + st.has q, none⟩ = some (.int .i64 (nth S (st.has q)))) (first | go_keep | exact ⟨k1, k2, k3⟩ | exact ⟨(World.cell?_setCell_other _ _ _ _ Hn1.out).trans k1, (World.cell?_setCell_other _ _ _ _ Hn2.out).trans k2, (World.cell?_setCell_other _ _ _ _ Hn3.out).trans k3⟩) ((go_at_call 19; refine (Htk.out _ (by first | exact drew_below _ _ | exact (drew_below _ _).alloc (Nat.le_refl _) _)).mono ?_; rintro e w5 ⟨ao6, c6, rfl, hI6, hF6, hB6, hB7⟩; have k1 := (hB7.cell (p := ⟨Lb, 0, none⟩) hLw).trans hl1; have k2 := (hB7.cell (p := ⟨Hb, q, none⟩) hAw).trans hd2; have k3 := (hB7.cell (p := ⟨sb, so + st.has q, none⟩) hblk).trans hs1; have k4 := (hB7.frozen (p := ⟨Lb, 0, none⟩) hLw).trans hl5; have k5 := (hB7.frozen (p := ⟨Hb, q, none⟩) hAw).trans hg2; first | (have hm1 := (show w5.cell? ⟨w4.heap.size, 0, none⟩ = some (.slice none 0 0) from new_kept_cell hB6 rfl); have hm2 := (show w5.frozen? ⟨w4.heap.size, 0, none⟩ = false from new_kept_frozen hB6)) | (have hm1 := (show w5.cell? ⟨w4.heap.size, 0, none⟩ = some (.slice none 0 0) from new_kept_cell' hB6 rfl); have hm2 := (show w5.frozen? ⟨w4.heap.size, 0, none⟩ = false from new_kept_frozen' hB6)) | skip))
                    all_goals
                      clear Htk hl1 hd1 hd2 hs1
                      have hne1 : Lb ≠ w4.heap.size := by omega
                      have hne2 : Hb ≠ w4.heap.size := by omega
                      have hne3 : Hb ≠ Lb := by omega
                      have hsz7 := hB7.size
                      have kf1 : ∀ o, (w5.alloc o).frozen? ⟨Lb, 0, none⟩ = false := alloc_frozen (by simp only; omega) k4
                      have kf2 : ∀ o, (w5.alloc o).frozen? ⟨Hb, q, none⟩ = false := alloc_frozen (by simp only; omega) k5
                      go_wp2_with fail
                    · go_roundw
                      case rel => exact ⟨k + 1, by omega, by go_num, by rw [Hsu.out, Hsh.out, if_pos HR.out]; exact Lib.hid ((HP4.out.took (q := q) ((Fr.ofBelow hB7).alloc _) (hI6.alloc _) (hF6.mono (Nat.le_refl _))).setH q (st.has q + 1) _ (by simp) hq)⟩
                      case measure => simp [intOf]; omega
                    · go_roundw
                      case rel => exact ⟨k + 1, by omega, by go_num, by rw [Hsu.out, Hsh.out, if_pos HR.out]; exact Lib.hid ((HP4.out.took (q := q) (Fr.setCell (S := fun q => w4.heap.size ≤ q) (p := ⟨w4.heap.size, 0, none⟩) (Fr.ofBelow hB7) (fun _ => Nat.le_refl _) _) (hI6.fr0 (Fr.setCell (S := (· = w4.heap.size)) (Fr.refl _ _) (fun _ => rfl) _) (fun _ q' hq' e => by have h7 := hF6 q' hq'; simp at h7; omega)) (hF6.mono (by simp))).setH q (st.has q + 1) _ (by simp) hq)⟩
                      case measure => simp [intOf]; omega
                  · have hR' : (R == 0) = false := by simpa using hR
                    have HR := Lib.hid hR
                    clear hR
                    go_region_held3 (fun w' => w'.cell? ⟨Lb, 0, none⟩ = some (.slice aol st.own.length cl) ∧ w'.cell? ⟨Hb, q, none⟩ = some (.int .i64 (st.has q : Int)) ∧ w'.cell? ⟨sb, so + st.has q, none⟩ = some (.int .i64 (nth S (st.has q)))) (first | go_keep | exact ⟨k1, k2, k3⟩ | exact ⟨(World.cell?_setCell_other _ _ _ _ Hn1.out).trans k1, (World.cell?_setCell_other _ _ _ _ Hn2.out).trans k2, (World.cell?_setCell_other _ _ _ _ Hn3.out).trans k3⟩) ((go_at_call 19; refine (Htk.out _ (by first | exact drew_below _ _ | exact (drew_below _ _).alloc (Nat.le_refl _) _)).mono ?_; rintro e w5 ⟨ao6, c6, rfl, hI6, hF6, hB6, hB7⟩; have k1 := (hB7.cell (p := ⟨Lb, 0, none⟩) hLw).trans hl1; have k2 := (hB7.cell (p := ⟨Hb, q, none⟩) hAw).trans hd2; have k3 := (hB7.cell (p := ⟨sb, so + st.has q, none⟩) hblk).trans hs1; have k4 := (hB7.frozen (p := ⟨Lb, 0, none⟩) hLw).trans hl5; have k5 := (hB7.frozen (p := ⟨Hb, q, none⟩) hAw).trans hg2; first | (have hm1 := (show w5.cell? ⟨w4.heap.size, 0, none⟩ = some (.slice none 0 0) from new_kept_cell hB6 rfl); have hm2 := (show w5.frozen? ⟨w4.heap.size, 0, none⟩ = false from new_kept_frozen hB6)) | (have hm1 := (show w5.cell? ⟨w4.heap.size, 0, none⟩ = some (.slice none 0 0) from new_kept_cell' hB6 rfl); have hm2 := (show w5.frozen? ⟨w4.heap.size, 0, none⟩ = false from new_kept_frozen' hB6)) | skip))
                    all_goals
                      clear Htk hl1 hd1 hd2 hs1
                      go_wp2_with fail
                    · go_roundw
                      case rel => exact ⟨k + 1, by omega, by go_num, by rw [Hsu.out, Hsh.out, if_neg HR.out]; exact Lib.hid (HP4.out.fr (S := fun q => w4.heap.size ≤ q) ((Fr.ofBelow hB7).alloc _) (fun _ h => h))⟩
                      case measure => simp [intOf]; omega
                    · go_roundw
                      case rel => exact ⟨k + 1, by omega, by go_num, by rw [Hsu.out, Hsh.out, if_neg HR.out]; exact Lib.hid (HP4.out.fr (S := fun q => w4.heap.size ≤ q) (Fr.setCell (S := fun q => w4.heap.size ≤ q) (p := ⟨w4.heap.size, 0, none⟩) (Fr.ofBelow hB7) (fun _ => Nat.le_refl _) _) (fun _ h => h))⟩
                      case measure => simp [intOf]; omega
                · rw [if_neg h4] at hst
                  have Hst := Lib.hid hst
                  have h4' : ¬ (st.has q : Int) < S.length := by omega
                  have hat1 : st.at_ q ≤ 1000 := by
                    have e1 := cnt_succ js q hq
                    have e2 := cnt_le js (q + 1)
                    have e3 : (jobAt js q).length = (js.getD q []).length := rfl
                    have e4 := El.out
                    rw [e4] at h3
                    omega
                  clear hst
                  go_wp2_with fail
                  go_quiet (fail)
                  go_wp2_with fail
                  go_region_held3 (fun w' => w'.cell? ⟨b, off + q, none⟩ = some (.slice (some ⟨jb, jo, none⟩) l.length cj) ∧ w'.cell? ⟨Tb, q, none⟩ = some (.int .i64 (st.at_ q : Int)) ∧ w'.cell? ⟨jb, jo + st.at_ q * 2, none⟩ = some (.int .i64 x) ∧ w'.cell? ⟨jb, jo + st.at_ q * 2 + 1, none⟩ = some (.int .i64 y)) (first | go_keep | exact ⟨k1, k2, k3, k4⟩) ((go_at_call 18; refine (Hsec.out _ (drewN_below _ wp _)).mono ?_; rintro e w4 ⟨sb, so, c4, rfl, hI4, hle4, hF4, hB4, hcs⟩; have k1 := (hB4.cell (p := ⟨b, off + q, none⟩) hbw).trans hc0; have k2 := (hB4.cell (p := ⟨Tb, q, none⟩) (show Tb < _ by omega)).trans hc1; have k3 := (hB4.cell (p := ⟨jb, jo + st.at_ q * 2, none⟩) hbx).trans hx; have k4 := (hB4.cell (p := ⟨jb, jo + st.at_ q * 2 + 1, none⟩) hbx).trans hy))
                  clear k1 k2 k3 k4 hx hy hc0 Hsec hc1 hc2 hf1 hf2
                  have hP4 := hRI.out.grow hB4
                  obtain ⟨hd1, hd2, hg1, hg2⟩ := hP4.cells hq
                  have HP4 := Lib.hid hP4
                  have HI4 := Lib.hid hI4
                  have Hcs := Lib.hid hcs
                  clear hcs hI4 hP4 hRI
                  go_wp2_with fail
                  clear hd1 hd2 hg1 hg2
                  go_loopw [26] (fun i wi => ∃ j : Nat, j ≤ S.length ∧ i = .int .i64 j ∧ Hid (RI w wi Lb Tb Hb js.length { st with own := giveAll st.own (S.take j) q } u20) ∧ Hid (∀ i, i < S.length → wi.cell? ⟨sb, so + i, none⟩ = some (.int .i64 (nth S i)))) (fun i _ => S.length - (intOf i).toNat)
                  case atStart => exact ⟨0, Nat.zero_le _, rfl, HP4, Hcs⟩
                  case round =>
                    obtain ⟨j, hj, rfl, hPj, hIj⟩ := hrel
                    obtain ⟨wg, rfl⟩ : ∃ wg : World, wg = wr := ⟨_, rfl⟩
                    clear HP4 Hcs
                    have ho1 := hPj.out.o1
                    have ho2 := hPj.out.o2
                    have ho3 := hPj.out.o3
                    have hLt := hPj.out.lt
                    by_cases hjl : j < S.length
                    · obtain ⟨aol, cl, hl1, hl2, hl3⟩ := hPj.out.lv
                      have hl5 := hPj.out.lf
                      have hol := Hsi.out.own
                      have hgl := giveAll_len (S.take j) st.own q
                      have hs1 := hIj.out j hjl
                      have hblk := World.block_lt_of_cell? wg _ hs1
                      simp only at hblk
                      have hgs : giveAll st.own (S.take (j + 1)) q = (giveM (giveAll st.own (S.take j) q) (nth S j) q).1 := by
                        rw [List.take_succ_eq_append_getElem hjl, giveAll_snoc, nth_lt]
                      obtain ⟨G, eG⟩ : ∃ G, G = giveAll st.own (S.take j) q := ⟨_, rfl⟩
                      rw [← eG] at hPj hgs hl1 hl2 hl3 hgl
                      obtain ⟨X, R, hXR⟩ : ∃ X R, giveM G (nth S j) q = (X, R) := ⟨_, _, rfl⟩
                      rw [hXR] at hgs
                      simp only at hgs
                      have Hgs := Lib.hid hgs
                      have HXR := Lib.hid hXR
                      have HL2 := Lib.hid hl2
                      simp only at hl1
                      have hLw : Lb < wg.heap.size := by omega
                      have hn1 : (⟨wg.heap.size, 0, none⟩ : Addr) ≠ ⟨Lb, 0, none⟩ := by intro e; injection e with e; omega
                      have hn3 : ∀ i, (⟨wg.heap.size, 0, none⟩ : Addr) ≠ ⟨sb, so + i, none⟩ := by intro i e; injection e with e; omega
                      have hn4 : ∀ i, (⟨Lb, 0, none⟩ : Addr) ≠ ⟨sb, so + i, none⟩ := by intro i e; injection e with e; omega
                      have Hn1 := Lib.hid hn1
                      have Hn3 := Lib.hid hn3
                      have Hn4 := Lib.hid hn4
                      have htk : ∀ wx, Below wg.heap.size wg wx → Calls Try.prog 20 #[.agg #[.slice aol G.length cl], .int .i64 (nth S j), .int .i64 (q : Int)] wx
                          (fun e w' => ∃ ao c, e = .returned (.tuple #[.agg #[.slice ao X.length c], .int .i64 R]) ∧ IsInts w' (.slice ao X.length c) X ∧ From wx.heap.size (.slice ao X.length c) ∧ Below wx.heap.size wx w' ∧ Below wg.heap.size wg w') := by
                        intro wx hwx
                        refine (rgive_any _ G _ _ _ (HL2.out.grow hwx) (by omega)).mono fun e w' hg => ?_
                        have := hg.slice
                        rw [HXR.out] at this
                        obtain ⟨ao, c, t1, t2, t3, t4⟩ := this
                        exact ⟨ao, c, t1, t2, t3, t4, hwx.trans (t4.mono hwx.size)⟩
                      have Htk := Lib.hid htk
                      clear htk hXR eG hgs hl3 hl2 hn1 hn3 hn4
                      go_wp2_with fail
                      go_region_held3 (fun w' => w'.cell? ⟨Lb, 0, none⟩ = some (.slice aol G.length cl) ∧ w'.cell? ⟨sb, so + j, none⟩ = some (.int .i64 (nth S j))) (first | go_keep | exact ⟨k1, k3⟩ | exact ⟨(World.cell?_setCell_other _ _ _ _ Hn1.out).trans k1, (World.cell?_setCell_other _ _ _ _ (Hn3.out j)).trans k3⟩) ((go_at_call 20; refine (Htk.out _ (by first | exact drew_below _ _ | exact (drew_below _ _).alloc (Nat.le_refl _) _)).mono ?_; rintro e w5 ⟨ao6, c6, rfl, hI6, hF6, hB6, hB7⟩; have k1 := (hB7.cell (p := ⟨Lb, 0, none⟩) hLw).trans hl1; have k3 := (hB7.cell (p := ⟨sb, so + j, none⟩) hblk).trans hs1; have k4 := (hB7.frozen (p := ⟨Lb, 0, none⟩) hLw).trans hl5; first | (have hm1 := (show w5.cell? ⟨wg.heap.size, 0, none⟩ = some (.slice none 0 0) from new_kept_cell hB6 rfl); have hm2 := (show w5.frozen? ⟨wg.heap.size, 0, none⟩ = false from new_kept_frozen hB6)) | (have hm1 := (show w5.cell? ⟨wg.heap.size, 0, none⟩ = some (.slice none 0 0) from new_kept_cell' hB6 rfl); have hm2 := (show w5.frozen? ⟨wg.heap.size, 0, none⟩ = false from new_kept_frozen' hB6)) | skip))
                      all_goals
                        clear Htk hl1 hs1
                        have hne1 : Lb ≠ wg.heap.size := by omega
                        have hsz7 := hB7.size
                        have kf1 : ∀ o, (w5.alloc o).frozen? ⟨Lb, 0, none⟩ = false := alloc_frozen (by simp only; omega) k4
                        go_wp2_with fail
                      · go_roundw
                        case rel => exact ⟨j + 1, by omega, by go_num, by
                          rw [Hgs.out]
                          have h9 := hPj.out.took (q := q) ((Fr.ofBelow hB7).alloc (.cells #[.slice ao6 X.length c6] 29)) (hI6.alloc _) (hF6.mono (Nat.le_refl _))
                          exact Lib.hid h9, Lib.hid (fun i hi => by
                            rw [World.cell?_setCell_other _ _ _ _ (Hn4.out i)]
                            exact ((Fr.ofBelow (S := fun _ => False) hB7).alloc _).cell (hIj.out i hi) (fun h => h))⟩
                        case measure => simp [intOf]; omega
                      · go_roundw
                        case rel => exact ⟨j + 1, by omega, by go_num, by
                          rw [Hgs.out]
                          have h9 := hPj.out.took (q := q) (Fr.setCell (S := fun q => wg.heap.size ≤ q) (p := ⟨wg.heap.size, 0, none⟩) (Fr.ofBelow hB7) (fun _ => Nat.le_refl _) (.slice ao6 X.length c6)) (hI6.fr0 (Fr.setCell (S := (· = wg.heap.size)) (Fr.refl _ _) (fun _ => rfl) _) (fun _ q' hq' e => by have h7 := hF6 q' hq'; simp at h7; omega)) (hF6.mono (by simp))
                          exact Lib.hid h9, Lib.hid (fun i hi => by
                            rw [World.cell?_setCell_other _ _ _ _ (Hn4.out i), World.cell?_setCell_other _ _ _ _ (Hn3.out i)]
                            exact (Fr.ofBelow (S := fun _ => False) hB7).cell (hIj.out i hi) (fun h => h))⟩
                        case measure => simp [intOf]; omega
                    · obtain rfl : j = S.length := by omega
                      rw [List.take_length] at hPj
                      have hdl := Hsi.out.dn
                      go_wp2_with (at_builtin; refine wpList_append_own2 _ rfl (.tmp 190) (.tmp 192) 23 rfl (Hb + 1) 3 i3 (.int .i64 0) 1 8 Try.underlying23 Hi3.out Hz03.out Hz13.out Hz23.out rfl (by decide) u20 st.dn.length (st.dn.map (Value.int .i64)) rfl (hPj.out.done.alloc _) ⟨wg.heap.size, 0, none⟩ 1 1 [.int .i64 (q : Int)] rfl rfl (cell_one_new _ _ _) ?c2 ?c3 ?c4 ?c5 ?_)
                      case c2 => intro x hx; simp at hx; subst hx; rfl
                      case c3 => unfold maxLen; omega
                      case c4 => omega
                      case c5 => simp; omega
                      intro v5 w5 hown5 hgr5 hor5
                      have hP5 := hPj.out.add (p := (q : Int)) _ hown5 hgr5 (by simpa using hor5)
                      obtain ⟨hd1, hd2, hg1, hg2⟩ := hP5.cells hq
                      simp only at hd1 hd2
                      have HP5 := Lib.hid hP5
                      have hneT : Tb ≠ Hb := by omega
                      clear hown5 hgr5 hor5 hP5 hPj hIj
                      go_wp2_with fail
                      go_roundw
                      case rel => exact ⟨k + 1, by omega, by go_num, by rw [Hsu.out, Hst.out]; exact Lib.hid ((HP5.out.setT q (st.at_ q + 1) _ (by simp) hq).setH q 0 _ (by simp) hq)⟩
                      case measure => simp [intOf]; omega
              · have hst : stepM js ord st (q : Int) = st := by
                  unfold stepM
                  rw [if_neg (by omega), Int.toNat_natCast, if_neg (by rw [← El.out]; exact h3)]
                have Hst := Lib.hid hst
                have d3 : decide ((l.length : Int) ≤ (st.at_ q : Int)) = true := by simp; omega
                have h3n : l.length ≤ st.at_ q := by omega
                clear hst hat h3
                go_wp2_with fail
                go_quiet (fail)
                go_wp2_with fail
                go_roundw
                case rel => exact ⟨k + 1, by omega, by go_num, by rw [Hsu.out, Hst.out]; exact Lib.hid (hRI.out.grow (drewN_below _ _ _))⟩
                case measure => simp [intOf]; omega
        · obtain rfl : k = ps.length := by omega
          rw [List.take_length] at hRI
          obtain ⟨st, est⟩ : ∃ st, st = runM js ord (startM n) ps := ⟨_, rfl⟩
          have hsi := sInv_run js ord n ps ps.length (Nat.le_refl _)
          rw [List.take_length] at hsi
          have hans : playM n js ord ps = ⟨st.own, waitsM js ord st js.length, st.dn, 0⟩ := by
            unfold playM
            rw [Hnew.out, if_neg (by simp), if_neg (by omega), if_neg (by rw [Hr.out]; simp), est]
          rw [← est] at hRI hsi
          have Hsi := Lib.hid hsi
          have Hans := Lib.hid hans
          clear hsi est hans
          obtain ⟨i4, hi, hz0, hz1, hz2⟩ := info_parts Try.info43
          have Hi4 := Lib.hid hi
          have Hz04 := Lib.hid hz0
          have Hz14 := Lib.hid hz1
          have Hz24 := Lib.hid hz2
          clear hi hz0 hz1 hz2
          have HP0 := hRI
          obtain ⟨dv, edv⟩ : ∃ dv, dv = u20 := ⟨_, rfl⟩
          rw [← edv] at HP0
          have EDV := Lib.hid edv
          clear hRI edv
          go_wp2_with fail
          go_loopw [29, 30] (fun v i wi => ∃ (j : Nat) (hv : Nat → Value), j ≤ js.length ∧ i = .int .i64 j ∧ Hid (OutI wp wi v j hv (waitM js ord st))) (fun _ i _ => js.length - (intOf i).toNat)
          case atStart => exact ⟨0, _, Nat.zero_le _, rfl, OutI.start _ _⟩
          case round =>
            obtain ⟨j, hv, hj, rfl, hO⟩ := hrel
            have hPj := HP0.out.fr hO.out.fr (fun _ h => h)
            by_cases hjl : j < js.length
            · have hPb := hPj.grow (((Below.refl _ _).alloc (Nat.le_refl _) (.cells #[.slice none 0 0, .int .i64 (-1)] 43)))
              obtain ⟨hc1, hc2, _, _⟩ := hPb.cells hjl
              have hlt := hPj.lt
              have ho1 := hPj.o1
              have ho2 := hPj.o2
              have ho3 := hPj.o3
              have hAs := hO.out.fr.size
              have hjq := (Hj.out j hjl).grow hPb.below
              obtain ⟨b, off, eb, h0c⟩ := Hcj.out j hjl
              subst eb
              have hc0 := (hPb.below.cell (p := ⟨b, off + j, none⟩) (World.block_lt_of_cell? w _ h0c)).trans h0c
              have hbw := World.block_lt_of_cell? _ _ hc0
              simp only [World.size_alloc] at hbw
              have hat := Hsi.out.at_ j hjl
              obtain ⟨l, el⟩ : ∃ l, l = jobAt js j := ⟨_, rfl⟩
              rw [← el] at hjq hat
              obtain ⟨aoj, cj, ej, hcells⟩ := hjq.form
              have HC := Lib.hid hcells
              have El := Lib.hid el
              rw [ej] at hc0
              clear h0c hjq hcells ej el
              by_cases h3 : st.at_ j < l.length
              · rcases HC.out with h0 | ⟨jb, jo, rfl, hcc⟩
                · omega
                obtain ⟨x, y, exy⟩ : ∃ x y, l.getD (st.at_ j) (0, 0) = (x, y) := ⟨_, _, rfl⟩
                have hx := (hcc _ h3).1
                have hy := (hcc _ h3).2
                rw [exy] at hx hy
                have hbx := World.block_lt_of_cell? _ _ hx
                simp only [World.size_alloc] at hbx
                obtain ⟨S, eS⟩ : ∃ S, secM x y ord = S := ⟨_, rfl⟩
                have hsS : secAt js ord st j = S := by unfold secAt; rw [← El.out, exy]; exact eS
                have hS1 : S.length ≤ 2 := by rw [← eS]; exact (secM_len _ _ _).2
                have hS0 : 1 ≤ S.length := by rw [← eS]; exact (secM_len _ _ _).1
                have hhas := Hsi.out.has j hjl (by rw [← El.out]; exact h3)
                rw [hsS] at hhas
                have hwm : waitM js ord st j = (S.take (st.has j), if st.has j < S.length then nth S (st.has j) else -1) := by
                  unfold waitM; rw [if_pos (by rw [← El.out]; exact h3), hsS]
                obtain ⟨wa, ewa⟩ : ∃ wa, wa = wr.alloc (.cells #[.slice none 0 0, .int .i64 (-1)] 43) := ⟨_, rfl⟩
                have hwa : wa.heap.size = wr.heap.size + 1 := by rw [ewa]; simp
                have Ewa := Lib.hid ewa
                have hsec := fun wx hb => rsec_there x y ord wa wx S eS hb
                have Hsec := Lib.hid hsec
                have h3n : (st.at_ j : Int) < (l.length : Int) := by omega
                rw [← ewa] at hc0 hc1 hc2 hx hy
                clear hcc exy hsS hsec hat eS ewa
                go_wp2_with fail
                rw [← Ewa.out]
                go_quiet (fail)
                go_wp2_with fail
                go_region_held3 (fun w' => w'.cell? ⟨b, off + j, none⟩ = some (.slice (some ⟨jb, jo, none⟩) l.length cj) ∧ w'.cell? ⟨Tb, j, none⟩ = some (.int .i64 (st.at_ j : Int)) ∧ w'.cell? ⟨jb, jo + st.at_ j * 2, none⟩ = some (.int .i64 x) ∧ w'.cell? ⟨jb, jo + st.at_ j * 2 + 1, none⟩ = some (.int .i64 y)) (first | go_keep | exact ⟨k1, k2, k3, k4⟩) ((go_at_call 18; refine (Hsec.out _ (drewN_below _ wa _)).mono ?_; rintro e w4 ⟨sb, so, c4, rfl, hI4, hle4, hF4, hB4, hcs⟩; have k1 := (hB4.cell (p := ⟨b, off + j, none⟩) (show b < _ by omega)).trans hc0; have k2 := (hB4.cell (p := ⟨Tb, j, none⟩) (show Tb < _ by omega)).trans hc1; have k3 := (hB4.cell (p := ⟨jb, jo + st.at_ j * 2, none⟩) (show jb < _ by omega)).trans hx; have k4 := (hB4.cell (p := ⟨jb, jo + st.at_ j * 2 + 1, none⟩) (show jb < _ by omega)).trans hy))
                have hd2 := (hB4.cell (p := ⟨Hb, j, none⟩) (show Hb < _ by omega)).trans hc2
                clear k1 k2 k3 k4 hx hy hc0 Hsec hc1 hc2
                have hB5 : Below wr.heap.size wr w4 := by
                  have h9 := hB4
                  rw [Ewa.out] at h9
                  exact ((Below.refl _ _).alloc (Nat.le_refl _) _).trans (h9.mono (by simp))
                have hm := hB4
                rw [Ewa.out] at hm
                have m0 : w4.cell? ⟨wr.heap.size, 0, none⟩ = some (.slice none 0 0) := new_kept_cell (i := 0) hm rfl
                have m1 : w4.cell? ⟨wr.heap.size, 1, none⟩ = some (.int .i64 (-1)) := new_kept_cell (i := 1) hm rfl
                have m2 := new_kept_frozen (i := 0) hm
                have m3 := new_kept_frozen (i := 1) hm
                have hw4 := hB4.size
                have hhc : (st.has j : Int) ≤ c4 := by omega
                have hneH : Hb ≠ wr.heap.size := by omega
                have hnX : (⟨wr.heap.size, 0, none⟩ : Addr) ≠ ⟨Hb, j, none⟩ := by intro e; injection e with e; omega
                have HnX := Lib.hid hnX
                have hneS : sb ≠ wr.heap.size := by omega
                have hlenT : (S.take (st.has j)).length = st.has j := by rw [List.length_take]; omega
                have hcelT : ∀ i, i < st.has j → w4.cell? ⟨sb, so + i, none⟩ = some (.int .i64 (nth (S.take (st.has j)) i)) := by
                  intro i hi
                  rw [hcs i (by omega)]
                  congr 2
                  simp [nth, List.getD, List.getElem?_take, hi]
                have HlenT := Lib.hid hlenT
                have HcelT := Lib.hid hcelT
                have Hcs := Lib.hid hcs
                have hsm : st.has j ≤ 1000 := by omega
                clear hlenT hcelT hcs hm
                go_wp2_with fail
                go_region_law (first | (refine step_hold (w4 := w4) rfl (.tmp 235) (.tmp 241) rfl (Fr.drew (Fr.refl _ _)) rfl (S.take (st.has j)) sb so c4 (st.has j) rfl HlenT.out HcelT.out hsm ?_; intro ao5 c5 w5 hI5 hF5 hf5; have k2 := hf5.cell hd2 (fun h => h); have kb := hf5.cell m0 (fun h => h); have kf := (hf5.frozen (p := ⟨wr.heap.size, 0, none⟩) (show wr.heap.size < _ by omega) (fun h => h)).trans m2))
                all_goals
                  clear m0 m2 hd2 hnX HcelT
                  have hw5 := hf5.size
                  have hBJ0 : Below wr.heap.size wr (w5.setCell ⟨wr.heap.size, 0, none⟩ (.slice ao5 (st.has j) c5)) := (hB5.trans (hf5.below hB5.size (fun _ h => h.elim))).setCell (p := ⟨wr.heap.size, 0, none⟩) (Nat.le_refl _) _
                  have kb1 := hf5.cell m1 (fun h => h)
                  have kf1 := (hf5.frozen (p := ⟨wr.heap.size, 1, none⟩) (show wr.heap.size < _ by omega) (fun h => h)).trans m3
                  have hFo : From wr.heap.size (.slice ao5 (st.has j) c5) := hF5.mono (by omega)
                  have hIn : ∀ T : Nat → Prop, (∀ q, T q → q = wr.heap.size) → ∀ wx, Fr T w5 wx → IsInts wx (.slice ao5 (st.has j) c5) (S.take (st.has j)) := fun T hT wx hf => hI5.fr0 hf (fun _ q hq e => by have h7 := hF5 q hq; have := hT q e; omega)
                  by_cases h4 : st.has j < S.length
                  · have hsc := hf5.cell (Hcs.out _ h4) (fun h => h)
                    rw [if_pos h4] at hwm
                    have Hwm := Lib.hid hwm
                    have h4' : (st.has j : Int) < (S.length : Int) := by omega
                    have hBJ : Below wr.heap.size wr ((w5.setCell ⟨wr.heap.size, 0, none⟩ (.slice ao5 (st.has j) c5)).setCell ⟨wr.heap.size, 1, none⟩ (.int .i64 (nth S (st.has j)))) := hBJ0.setCell (p := ⟨wr.heap.size, 1, none⟩) (Nat.le_refl _) _
                    have HJ := Lib.hid (owns_fr hO.out.row (Fr.ofBelow (S := fun _ => False) hBJ) (fun _ _ h => h))
                    have HIJ : Hid (IsInts ((w5.setCell ⟨wr.heap.size, 0, none⟩ (.slice ao5 (st.has j) c5)).setCell ⟨wr.heap.size, 1, none⟩ (.int .i64 (nth S (st.has j)))) (.slice ao5 (st.has j) c5) (waitM js ord st j).1) := by
                      rw [Hwm.out]
                      exact Lib.hid (hIn (· = wr.heap.size) (fun _ h => h) _ (Fr.setCell (S := (· = wr.heap.size)) (p := ⟨wr.heap.size, 1, none⟩) (Fr.setCell (S := (· = wr.heap.size)) (p := ⟨wr.heap.size, 0, none⟩) (Fr.refl _ _) (fun _ => rfl) _) (fun _ => rfl) _))
                    have HSZ : Hid (w5.heap.size = ((w5.setCell ⟨wr.heap.size, 0, none⟩ (.slice ao5 (st.has j) c5)).setCell ⟨wr.heap.size, 1, none⟩ (.int .i64 (nth S (st.has j)))).heap.size) := Lib.hid (by simp)
                    clear hIn hBJ0 hwm h4
                    go_wp2_with (at_builtin; refine wpList_append_own2 _ rfl (.tmp 259) (.tmp 261) 30 rfl wp.heap.size 43 i4 _ 2 32 Try.underlying30 Hi4.out Hz04.out Hz14.out Hz24.out rfl (by decide) _ j (outC hv (waitM js ord st) j) rfl (HJ.out.alloc _) ⟨w5.heap.size, 0, none⟩ 1 1 [.slice ao5 (st.has j) c5, .int .i64 (nth S (st.has j))] rfl rfl (two_new _ _ _ HSZ.out) ?c2 ?c3 ?c4 ?c5 ?_)
                    case c2 => first | exact ⟨rfl, rfl⟩ | exact two_one _ _
                    case c3 => unfold maxLen; omega
                    case c4 => omega
                    case c5 =>
                      have h9 := hBJ.size
                      simp at h9 ⊢
                      omega
                    intro v8 w8 hown8 hgr8 hor8
                    have hO8 := hO.out.add hBJ HIJ.out hFo _ (by simp only [Hwm.out]; exact hown8) hgr8 (by simpa using hor8)
                    have HO8 := Lib.hid hO8
                    obtain ⟨ao9, c9, rfl⟩ := owns_form hown8
                    clear hown8 hgr8 hor8 hO8 HJ
                    go_wp2_with fail
                    go_roundw
                    case rel => exact ⟨j + 1, _, by omega, by go_num, HO8⟩
                    case measure => simp [intOf]; omega
                  · rw [if_neg h4] at hwm
                    have Hwm := Lib.hid hwm
                    have h4' : ¬ (st.has j : Int) < (S.length : Int) := by omega
                    have hBJ := hBJ0
                    have HJ := Lib.hid (owns_fr hO.out.row (Fr.ofBelow (S := fun _ => False) hBJ) (fun _ _ h => h))
                    have HIJ : Hid (IsInts (w5.setCell ⟨wr.heap.size, 0, none⟩ (.slice ao5 (st.has j) c5)) (.slice ao5 (st.has j) c5) (waitM js ord st j).1) := by
                      rw [Hwm.out]
                      exact Lib.hid (hIn (· = wr.heap.size) (fun _ h => h) _ (Fr.setCell (S := (· = wr.heap.size)) (p := ⟨wr.heap.size, 0, none⟩) (Fr.refl _ _) (fun _ => rfl) _))
                    have HSZ : Hid (w5.heap.size = (w5.setCell ⟨wr.heap.size, 0, none⟩ (.slice ao5 (st.has j) c5)).heap.size) := Lib.hid (by simp)
                    clear hIn hBJ0 hwm h4
                    go_wp2_with (at_builtin; refine wpList_append_own2 _ rfl (.tmp 259) (.tmp 261) 30 rfl wp.heap.size 43 i4 _ 2 32 Try.underlying30 Hi4.out Hz04.out Hz14.out Hz24.out rfl (by decide) _ j (outC hv (waitM js ord st) j) rfl (HJ.out.alloc _) ⟨w5.heap.size, 0, none⟩ 1 1 [.slice ao5 (st.has j) c5, .int .i64 (-1)] rfl rfl (two_new _ _ _ HSZ.out) ?c2 ?c3 ?c4 ?c5 ?_)
                    case c2 => first | exact ⟨rfl, rfl⟩ | exact two_one _ _
                    case c3 => unfold maxLen; omega
                    case c4 => omega
                    case c5 =>
                      have h9 := hBJ.size
                      simp at h9 ⊢
                      omega
                    intro v8 w8 hown8 hgr8 hor8
                    have hO8 := hO.out.add hBJ HIJ.out hFo _ (by simp only [Hwm.out]; exact hown8) hgr8 (by simpa using hor8)
                    have HO8 := Lib.hid hO8
                    obtain ⟨ao9, c9, rfl⟩ := owns_form hown8
                    clear hown8 hgr8 hor8 hO8 HJ
                    go_wp2_with fail
                    go_roundw
                    case rel => exact ⟨j + 1, _, by omega, by go_num, HO8⟩
                    case measure => simp [intOf]; omega
              · have hwm : waitM js ord st j = ([], -1) := by unfold waitM; rw [if_neg (by rw [← El.out]; exact h3)]
                have Hwm := Lib.hid hwm
                have h3n : ¬ (st.at_ j : Int) < (l.length : Int) := by omega
                clear hwm
                go_wp2_with fail
                go_quiet (fail)
                have hBJ : Below wr.heap.size wr ((wr.alloc (.cells #[.slice none 0 0, .int .i64 (-1)] 43)).drewN nq) := ((Below.refl _ _).alloc (Nat.le_refl _) _).trans (drewN_below _ _ _)
                have HJ := Lib.hid (owns_fr hO.out.row (Fr.ofBelow (S := fun _ => False) hBJ) (fun _ _ h => h))
                have HIJ : Hid (IsInts ((wr.alloc (.cells #[.slice none 0 0, .int .i64 (-1)] 43)).drewN nq) (.slice none 0 0) (waitM js ord st j).1) := by
                  rw [Hwm.out]; exact IsInts.nil _
                have HSZ : Hid (wr.heap.size + 1 = ((wr.alloc (.cells #[.slice none 0 0, .int .i64 (-1)] 43)).drewN nq).heap.size) := Lib.hid (by show _ = (wr.alloc _).heap.size; simp)
                clear hPb hPj hc0 hc1 hc2
                go_wp2_with (at_builtin; refine wpList_append_own2 _ rfl (.tmp 259) (.tmp 261) 30 rfl wp.heap.size 43 i4 _ 2 32 Try.underlying30 Hi4.out Hz04.out Hz14.out Hz24.out rfl (by decide) _ j (outC hv (waitM js ord st) j) rfl (HJ.out.alloc _) ⟨wr.heap.size + 1, 0, none⟩ 1 1 [.slice none 0 0, .int .i64 (-1)] rfl rfl (two_new _ _ _ HSZ.out) ?c2 ?c3 ?c4 ?c5 ?_)
                case c2 => first | exact ⟨rfl, rfl⟩ | exact two_one _ _
                case c3 => unfold maxLen; omega
                case c4 => omega
                case c5 =>
                  have h9 := hBJ.size
                  simp at h9 ⊢
                  omega
                intro v8 w8 hown8 hgr8 hor8
                have hO8 := hO.out.add hBJ HIJ.out (From.nil _) _ (by simp only [Hwm.out]; exact hown8) hgr8 (by simpa using hor8)
                have HO8 := Lib.hid hO8
                obtain ⟨ao9, c9, rfl⟩ := owns_form hown8
                clear hown8 hgr8 hor8 hO8 HJ
                go_wp2_with fail
                go_roundw
                case rel => exact ⟨j + 1, _, by omega, by go_num, HO8⟩
                case measure => simp [intOf]; omega
            · obtain rfl : j = js.length := by omega
              have hres := hPj.res
              have hresf := hPj.resf
              obtain ⟨aol, cl, hl1, hl2, hl3⟩ := hPj.lv
              have hdn := IsInts.ofRow hPj.done
              have hbel := hPj.below
              have hlt := hPj.lt
              have ho1 := hPj.o1
              have ho2 := hPj.o2
              have ho3 := hPj.o3
              have HP := Lib.hid hPj
              clear hPj
              obtain ⟨aod, cd, rfl⟩ := owns_form HP.out.done
              obtain ⟨aov, cv, rfl⟩ := owns_form hO.out.row
              rw [← EDV.out]
              go_wp2_with fail
              have hfS : Fr (· = w.heap.size) wr (wr.setCell ⟨w.heap.size, 0, none⟩ (.slice aol st.own.length cl)) := Fr.setCell (S := (· = w.heap.size)) (p := ⟨w.heap.size, 0, none⟩) (Fr.refl _ _) (fun _ => rfl) _
              refine bodyPost_ret (v := .tuple #[.agg #[.slice aol st.own.length cl], .slice aov js.length cv, .slice aod st.dn.length cd, .int .i64 0]) (by simp [results, Try.results6, go_sem, hres]) rfl ?_
              rw [Hans.out]
              refine ⟨_, _, _, rfl, ?_, ?_, ?_, ?_⟩
              · exact hl2.fr0 hfS (fun h0 q hq e => (hl3 h0 q hq).1 e)
              · exact hO.out.waiters hfS (fun q hq => by have h9 := HP0.out.lt; subst hq; omega)
              · exact hdn.fr0 hfS (fun _ q hq e => by have h9 := (HP.out.done.lt q hq).1; omega)
              · exact hbel.setCell (by simp) _
end Go.Proofs.Ytnammleaglmjaaa
