/- The program plays as the plain words say, where there are locks and jobs enough. Conditions: at most 65 locks, at most 64 jobs, of sections of locks that there are. -/
import Derived.Test.YtnammleaglmjaaaW11
import Derived.Test.YtnammleaglmjaaaW12
import Derived.Deep.RegionHeld3
namespace Go.Proofs.Ytnammleaglmjaaa
open Go.RowKit

theorem new_kept_cell {w w' : World} {cs : Array Value} {T : TypeId} {i : Nat} {v : Value} (h : Below (w.alloc (.cells cs T)).heap.size (w.alloc (.cells cs T)) w') (hv : cs[i]? = some v) : w'.cell? ⟨w.heap.size, i, none⟩ = some v :=
  (h.cell (p := ⟨w.heap.size, i, none⟩) (by simp)).trans (new_cell rfl hv)
theorem new_kept_frozen {w w' : World} {cs : Array Value} {T : TypeId} {i : Nat} (h : Below (w.alloc (.cells cs T)).heap.size (w.alloc (.cells cs T)) w') : w'.frozen? ⟨w.heap.size, i, none⟩ = false :=
  (h.frozen (p := ⟨w.heap.size, i, none⟩) (by simp)).trans (new_frozen rfl)
/-- A lock was taken. -/
theorem PI.took {w w4 W : World} {Lb Ab n : Nat} {jv : Nat → Value} {st : St} {dv : Value} {X : List Int} {ao : Option Addr} {c q : Nat} (h : PI w w4 Lb Ab n jv st dv) (hf : Fr (fun q => w4.heap.size ≤ q) w4 W)
    (hi : IsInts W (.slice ao X.length c) X) (hF : From w4.heap.size (.slice ao X.length c)) (hq : q < n) :
    PI w ((W.setCell ⟨Lb, 0, none⟩ (.slice ao X.length c)).setCell ⟨Ab, q * 3 + 2, none⟩ (.int .i64 ((st.has q : Int) + 1))) Lb Ab n jv { st with own := X, has := upd st.has q (st.has q + 1) } dv := by
  have h1 := h.fr hf (fun q hq => hq)
  have hlt := h.lt
  have o1 := h.o1
  have o2 := h.o2
  have h2 := h1.setL hi (fun _ q hq => by
    have h5 := hF q hq
    refine ⟨by omega, by omega, by omega, fun e => ?_⟩
    have := (h.done.lt q e).2
    omega)
  have h3 := h2.setA jv st.at_ (upd st.has q (st.has q + 1)) (q * 3 + 2) (.int .i64 ((st.has q : Int) + 1)) (by
    have := allA_set2 jv st.at_ st.has (st.has q + 1) hq
    simpa using this)
  exact h3

theorem alloc_frozen {w : World} {p : Addr} (hp : p.block < w.heap.size) (h : w.frozen? p = false) (o : Obj) : (w.alloc o).frozen? p = false :=
  (World.frozen?_of_block (w := w) (Below.heap_alloc _ _ _ hp)).trans h

theorem undrew {B : Nat} {w w' : World} (h : Below B w.drew w') : Below B w w' := ⟨h.os, h.tape, h.output, h.size, h.block⟩
theorem new_kept_cell' {w w' : World} {cs : Array Value} {T : TypeId} {i : Nat} {v : Value} (h : Below (w.alloc (.cells cs T)).drew.heap.size (w.alloc (.cells cs T)).drew w') (hv : cs[i]? = some v) : w'.cell? ⟨w.heap.size, i, none⟩ = some v :=
  new_kept_cell (undrew h) hv
theorem new_kept_frozen' {w w' : World} {cs : Array Value} {T : TypeId} {i : Nat} (h : Below (w.alloc (.cells cs T)).drew.heap.size (w.alloc (.cells cs T)).drew w') : w'.frozen? ⟨w.heap.size, i, none⟩ = false :=
  new_kept_frozen (undrew h)
theorem drew_below (B : Nat) (w : World) : Below B w w.drew := (Below.refl B w).drew

theorem made_allA (n : Nat) : (madeCells (Value.agg #[.slice none 0 0, .int .i64 0, .int .i64 0]).cells (n * 3)).toList = allA (fun _ => .slice none 0 0) (fun _ => 0) (fun _ => 0) n := by
  apply List.ext_getElem?
  intro i
  rw [allA_get]
  by_cases h : i < n * 3
  · rw [if_pos h]
    simp only [madeCells, Value.cells, Array.toList_map, Array.toList_range, List.getElem?_map, List.getElem?_range h, Option.map_some]
    have h3 : i % 3 = 0 ∨ i % 3 = 1 ∨ i % 3 = 2 := by omega
    rcases h3 with h3 | h3 | h3 <;> simp [h3]
  · rw [if_neg h, List.getElem?_eq_none (by simp [madeCells]; omega)]

theorem PI.jvs {w wr : World} {Lb Ab n : Nat} {jv jv' : Nat → Value} {st : St} {dv : Value} (h : PI w wr Lb Ab n jv st dv) (he : ∀ q, q < n → jv q = jv' q) : PI w wr Lb Ab n jv' st dv := by
  obtain ⟨h1, h2, h3, h4, h5, h6, h7, h8, h9⟩ := h
  refine ⟨h1, h2, h3, h4, h5, h6, h7, ?_, h9⟩
  have e : allA jv st.at_ st.has n = allA jv' st.at_ st.has n := by
    apply List.ext_getElem?
    intro i
    rw [allA_get, allA_get]
    by_cases hi : i < n * 3
    · rw [if_pos hi, if_pos hi]
      by_cases h0 : i % 3 = 0
      · rw [if_pos h0, if_pos h0, he _ (by omega)]
      · rw [if_neg h0, if_neg h0]
    · rw [if_neg hi, if_neg hi]
  rw [← e]; exact h8

theorem Try.info43 : (Try.prog.info? 43).map (fun i => (i.zero, i.size, i.bytes)) = some (some (.agg #[.slice none 0 0, .int .i64 0]), 2, 32) := by kernel_rfl

set_option maxHeartbeats 6400000 in
set_option maxRecDepth 100000 in
theorem play_main (n : Nat) (aj : Option Addr) (c : Nat) (ao : Option Addr) (c2 : Nat) (js : List (List (Int × Int))) (ord : Bool) (ps : List Int) (w : World) (hn : n ≤ 65) (hl : js.length ≤ 64) (hp : ps.length ≤ 1000)
   (jv : Nat → Value) (hj : ∀ i, i < js.length → IsJob w (jv i) (jobAt js i)) (hcj : ∀ i, i < js.length → ∃ b off, aj = some ⟨b, off, none⟩ ∧ w.cell? ⟨b, off + i, none⟩ = some (jv i)) (hr : rightM n js = true) (hc : cnt js js.length ≤ 1000) (hps : IsInts w (.slice ao ps.length c2) ps) :
    Calls Try.prog 5 #[.int .i64 (n : Int), .slice aj js.length c, .bool ord, .slice ao ps.length c2] w (Plays w (playM n js ord ps)) := by
  have hl' : (js.length : Int) ≤ 64 := by omega
  have hp' : (ps.length : Int) ≤ 20000 := by omega
  have Hj := Lib.hid hj
  have Hcj := Lib.hid hcj
  have Hps := Lib.hid hps
  clear hj hcj hps
  have hnew : newM (n : Int) = (List.replicate n (-1), 0) := by simp [newM]; omega
  have Hnew := Lib.hid hnew
  clear hnew
  obtain ⟨i0, hi, hz0, hz1, hz2⟩ := info_parts Try.info49
  have Hi := Lib.hid hi
  have Hz0 := Lib.hid hz0
  have Hz1 := Lib.hid hz1
  have Hz2 := Lib.hid hz2
  clear hi hz0 hz1 hz2
  obtain ⟨i3, hi, hz0, hz1, hz2⟩ := info_parts Try.info3
  have Hi3 := Lib.hid hi
  have Hz03 := Lib.hid hz0
  have Hz13 := Lib.hid hz1
  have Hz23 := Lib.hid hz2
  clear hi hz0 hz1 hz2
  go_enter Try.func5, Try.ntmps5
  go_wp2_with fail
  refine wp_scope_jumps2 0 (JP n aj c ao c2 js ord ps w jv) (fun a _ => ps.length - (intOf (a.tmps.getD 18 undef)).toNat) rfl ?_ ?_
  · rintro a wr ⟨f, Lb, Ab, k, dv, rfl, hk, hPI⟩
    by_cases hlt : k < ps.length
    · have hsu := runM_succ js ord (startM n) ps k hlt
      obtain ⟨ao', cap', e1, hz | ⟨pb, po, rfl, hcp⟩⟩ := id Hps.out
      · omega
      have hcp1 := hcp k hlt
      have hcp2 := (hPI.out.below.cell (p := ⟨pb, po + k, none⟩) (World.block_lt_of_cell? w _ hcp1)).trans hcp1
      injection e1 with e1 e2 e3
      subst e1 e3
      clear hcp hcp1 e2
      obtain ⟨p, ep⟩ : ∃ p, p = nth ps k := ⟨_, rfl⟩
      obtain ⟨st, est⟩ : ∃ st, st = runM js ord (startM n) (ps.take k) := ⟨_, rfl⟩
      have hsi := sInv_run js ord n ps k hk
      rw [← ep] at hcp2 hsu
      rw [← est] at hPI hsu hsi
      have Hsu := Lib.hid hsu
      have Hsi := Lib.hid hsi
      clear hsu hsi ep est
      by_cases h1 : p < 0
      · have hst : stepM js ord st p = st := by unfold stepM; rw [if_pos (.inl h1)]
        have Hst := Lib.hid hst
        clear hst
        go_wp2_with fail
        go_step3
        refine ⟨rfl, ?_, ?_⟩
        · exact JP.pack (k := k + 1) (by omega) (by rw [Hsu.out, Hst.out]; exact hPI.out)
        · simp [intOf]; omega
      · by_cases h2 : (js.length : Int) ≤ p
        · have hst : stepM js ord st p = st := by unfold stepM; rw [if_pos (.inr h2)]
          have Hst := Lib.hid hst
          clear hst
          go_wp2_with fail
          go_step3
          refine ⟨rfl, ?_, ?_⟩
          · exact JP.pack (k := k + 1) (by omega) (by rw [Hsu.out, Hst.out]; exact hPI.out)
          · simp [intOf]; omega
        · obtain ⟨q, rfl⟩ := Int.eq_ofNat_of_zero_le (show 0 ≤ p by omega)
          have hq : q < js.length := by omega
          obtain ⟨hc0, hc1, hc2, hf1, hf2⟩ := hPI.out.cells hq
          have hjq := (Hj.out q hq).grow (hPI.out.below)
          have hAlt := hPI.out.lt
          by_cases h3 : st.at_ q < (jobAt js q).length
          · obtain ⟨S, eS⟩ : ∃ S, S = secAt js ord st q := ⟨_, rfl⟩
            have hsec := sec_any Ab (q * 3) (st.at_ q) (jv q) (jobAt js q) ord wr hjq hc0 hc1 h3
            have hS1 : S.length ≤ 2 := by rw [eS]; exact (secM_len _ _ _).2
            have hS0 : 1 ≤ S.length := by rw [eS]; exact (secM_len _ _ _).1
            change Calls _ _ _ _ (Makes wr (secAt js ord st q)) at hsec
            rw [← eS] at hsec
            have Hsec := Lib.hid hsec
            have hst : stepM js ord st (q : Int) = if st.has q < S.length then
                if (takeM st.own (nth S (st.has q)) q).2 = 0 then
                  { st with own := (takeM st.own (nth S (st.has q)) q).1, has := upd st.has q (st.has q + 1) }
                else st
              else { own := giveAll st.own S q, at_ := upd st.at_ q (st.at_ q + 1), has := upd st.has q 0, dn := st.dn ++ [(q : Int)] } := by
              unfold stepM
              rw [if_neg (show ¬ ((q : Int) < 0 ∨ (js.length : Int) ≤ (q : Int)) from by omega), Int.toNat_natCast, if_pos h3, ← eS]
            clear hsec eS
            have hS0' : ((S.length : Int) == 0) = false := by rw [beq_eq_false_iff_ne]; omega
            by_cases h4 : st.has q < S.length
            · rw [if_pos h4] at hst
              have Hst := Lib.hid hst
              have h4' : (st.has q : Int) < S.length := by omega
              clear hst h3
              go_wp2_with fail
              refine Hsec.out.mono ?_
              rintro e w4 ⟨ao4, c4, rfl, hI4, hle4, hF4, hB4⟩
              have hP4 := hPI.out.grow hB4
              have HP4 := Lib.hid hP4
              obtain ⟨hd0, hd1, hd2, hg1, hg2⟩ := hP4.cells hq
              obtain ⟨aol, cl, hl1, hl2, hl3⟩ := hP4.lv
              have hl5 := hP4.lf
              have HL2 := Lib.hid hl2
              have HL3 := Lib.hid hl3
              obtain ⟨ao5, c5, e5, hz5 | ⟨sb, so, rfl, hcs⟩⟩ := id hI4
              · omega
              injection e5 with e5 _ e6
              subst e5 e6
              have hs1 := hcs (st.has q) h4
              have HI4 := Lib.hid hI4
              clear hcs hI4 hP4 hPI hc0 hc1 hc2 hf1 hf2 hl2 hl3
              go_wp2_with fail
              have hblk := World.block_lt_of_cell? w4 _ hs1
              simp only at hblk
              have hAw := HP4.out.lt
              have ho1 := HP4.out.o1
              have ho2 := HP4.out.o2
              have hLw : Lb < w4.heap.size := by omega
              have hn1 : (⟨w4.heap.size, 0, none⟩ : Addr) ≠ ⟨Lb, 0, none⟩ := by intro e; injection e with e; omega
              have hn2 : (⟨w4.heap.size, 0, none⟩ : Addr) ≠ ⟨Ab, q * 3 + 2, none⟩ := by intro e; injection e with e; omega
              have hn3 : (⟨w4.heap.size, 0, none⟩ : Addr) ≠ ⟨sb, so + st.has q, none⟩ := by intro e; injection e with e; omega
              have Hn1 := Lib.hid hn1
              have Hn2 := Lib.hid hn2
              have Hn3 := Lib.hid hn3
              clear hn1 hn2 hn3
              obtain ⟨X, R, hXR⟩ : ∃ X R, takeM st.own (nth S (st.has q)) q = (X, R) := ⟨_, _, rfl⟩
              have HXR := Lib.hid hXR
              have htk : ∀ wx, Below w4.heap.size w4 wx → Calls Try.prog 14 #[.agg #[.slice aol st.own.length cl], .int .i64 (nth S (st.has q)), .int .i64 (q : Int)] wx
                  (fun e w' => ∃ ao c, e = .returned (.tuple #[.agg #[.slice ao X.length c], .int .i64 R]) ∧ IsInts w' (.slice ao X.length c) X ∧ From wx.heap.size (.slice ao X.length c) ∧ Below wx.heap.size wx w' ∧ Below w4.heap.size w4 w') := by
                intro wx hwx
                refine (take_any _ st.own _ _ _ (HL2.out.grow hwx) (by have := Hsi.out.own; omega)).mono fun e w' hg => ?_
                have := hg.slice
                rw [HXR.out] at this
                obtain ⟨ao, c, t1, t2, t3, t4⟩ := this
                exact ⟨ao, c, t1, t2, t3, t4, hwx.trans (t4.mono hwx.size)⟩
              have Htk := Lib.hid htk
              clear htk hXR
              have hsh : stepM js ord st (q : Int) = if R = 0 then { st with own := X, has := upd st.has q (st.has q + 1) } else st := by rw [Hst.out, HXR.out]
              have Hsh := Lib.hid hsh
              clear hsh
              by_cases hR : R = 0
              · have hR' : (R == 0) = true := by simpa using hR
                have HR := Lib.hid hR
                clear hR
                go_region_held3 (fun w' => w'.cell? ⟨Lb, 0, none⟩ = some (.slice aol st.own.length cl) ∧ w'.cell? ⟨Ab, q * 3 + 2, none⟩ = some (.int .i64 (st.has q : Int)) ∧ w'.cell? ⟨sb, so + st.has q, none⟩ = some (.int .i64 (nth S (st.has q)))) (first | go_keep | exact ⟨k1, k2, k3⟩ | exact ⟨(World.cell?_setCell_other _ _ _ _ Hn1.out).trans k1, (World.cell?_setCell_other _ _ _ _ Hn2.out).trans k2, (World.cell?_setCell_other _ _ _ _ Hn3.out).trans k3⟩) ((go_at_call 14; refine (Htk.out _ (by first | exact drew_below _ _ | exact (drew_below _ _).alloc (Nat.le_refl _) _)).mono ?_; rintro e w5 ⟨ao6, c6, rfl, hI6, hF6, hB6, hB7⟩; have k1 := (hB7.cell (p := ⟨Lb, 0, none⟩) hLw).trans hl1; have k2 := (hB7.cell (p := ⟨Ab, q * 3 + 2, none⟩) hAw).trans hd2; have k3 := (hB7.cell (p := ⟨sb, so + st.has q, none⟩) hblk).trans hs1; have k4 := (hB7.frozen (p := ⟨Lb, 0, none⟩) hLw).trans hl5; have k5 := (hB7.frozen (p := ⟨Ab, q * 3 + 2, none⟩) hAw).trans hg2; first | (have hm1 := (show w5.cell? ⟨w4.heap.size, 0, none⟩ = some (.slice none 0 0) from new_kept_cell hB6 rfl); have hm2 := (show w5.frozen? ⟨w4.heap.size, 0, none⟩ = false from new_kept_frozen hB6)) | (have hm1 := (show w5.cell? ⟨w4.heap.size, 0, none⟩ = some (.slice none 0 0) from new_kept_cell' hB6 rfl); have hm2 := (show w5.frozen? ⟨w4.heap.size, 0, none⟩ = false from new_kept_frozen' hB6)) | skip))
                all_goals
                  clear Htk hl1 hd0 hd1 hd2 hs1
                  have hne1 : Lb ≠ w4.heap.size := by omega
                  have hne2 : Ab ≠ w4.heap.size := by omega
                  have hne3 : Ab ≠ Lb := by omega
                  have hsz7 := hB7.size
                  have kf1 : ∀ o, (w5.alloc o).frozen? ⟨Lb, 0, none⟩ = false := alloc_frozen (by simp only; omega) k4
                  have kf2 : ∀ o, (w5.alloc o).frozen? ⟨Ab, q * 3 + 2, none⟩ = false := alloc_frozen (by simp only; omega) k5
                  go_wp2_with fail
                  go_step3
                  refine ⟨rfl, ?_, by simp [intOf]; omega⟩
                · exact JP.pack (k := k + 1) (by omega) (by rw [Hsu.out, Hsh.out, if_pos HR.out]; exact HP4.out.took ((Fr.ofBelow hB7).alloc _) (hI6.alloc _) (hF6.mono (Nat.le_refl _)) hq)
                · exact JP.pack (k := k + 1) (by omega) (by rw [Hsu.out, Hsh.out, if_pos HR.out]; exact HP4.out.took (Fr.setCell (S := fun q => w4.heap.size ≤ q) (p := ⟨w4.heap.size, 0, none⟩) (Fr.ofBelow hB7) (fun _ => Nat.le_refl _) _) (hI6.fr0 (Fr.setCell (S := (· = w4.heap.size)) (Fr.refl _ _) (fun _ => rfl) _) (fun _ q' hq' e => by have h7 := hF6 q' hq'; simp at h7; omega)) (hF6.mono (by simp)) hq)
              · have hR' : (R == 0) = false := by simpa using hR
                have HR := Lib.hid hR
                clear hR
                go_region_held3 (fun w' => w'.cell? ⟨Lb, 0, none⟩ = some (.slice aol st.own.length cl) ∧ w'.cell? ⟨Ab, q * 3 + 2, none⟩ = some (.int .i64 (st.has q : Int)) ∧ w'.cell? ⟨sb, so + st.has q, none⟩ = some (.int .i64 (nth S (st.has q)))) (first | go_keep | exact ⟨k1, k2, k3⟩ | exact ⟨(World.cell?_setCell_other _ _ _ _ Hn1.out).trans k1, (World.cell?_setCell_other _ _ _ _ Hn2.out).trans k2, (World.cell?_setCell_other _ _ _ _ Hn3.out).trans k3⟩) ((go_at_call 14; refine (Htk.out _ (by first | exact drew_below _ _ | exact (drew_below _ _).alloc (Nat.le_refl _) _)).mono ?_; rintro e w5 ⟨ao6, c6, rfl, hI6, hF6, hB6, hB7⟩; have k1 := (hB7.cell (p := ⟨Lb, 0, none⟩) hLw).trans hl1; have k2 := (hB7.cell (p := ⟨Ab, q * 3 + 2, none⟩) hAw).trans hd2; have k3 := (hB7.cell (p := ⟨sb, so + st.has q, none⟩) hblk).trans hs1; have k4 := (hB7.frozen (p := ⟨Lb, 0, none⟩) hLw).trans hl5; have k5 := (hB7.frozen (p := ⟨Ab, q * 3 + 2, none⟩) hAw).trans hg2; first | (have hm1 := (show w5.cell? ⟨w4.heap.size, 0, none⟩ = some (.slice none 0 0) from new_kept_cell hB6 rfl); have hm2 := (show w5.frozen? ⟨w4.heap.size, 0, none⟩ = false from new_kept_frozen hB6)) | (have hm1 := (show w5.cell? ⟨w4.heap.size, 0, none⟩ = some (.slice none 0 0) from new_kept_cell' hB6 rfl); have hm2 := (show w5.frozen? ⟨w4.heap.size, 0, none⟩ = false from new_kept_frozen' hB6)) | skip))
                all_goals
                  clear Htk hl1 hd0 hd1 hd2 hs1
                  go_wp2_with fail
                  go_step3
                  refine ⟨rfl, ?_, by simp [intOf]; omega⟩
                · exact JP.pack (k := k + 1) (by omega) (by rw [Hsu.out, Hsh.out, if_neg HR.out]; exact HP4.out.fr (S := fun q => w4.heap.size ≤ q) ((Fr.ofBelow hB7).alloc _) (fun _ h => h))
                · exact JP.pack (k := k + 1) (by omega) (by rw [Hsu.out, Hsh.out, if_neg HR.out]; exact HP4.out.fr (S := fun q => w4.heap.size ≤ q) (Fr.setCell (S := fun q => w4.heap.size ≤ q) (p := ⟨w4.heap.size, 0, none⟩) (Fr.ofBelow hB7) (fun _ => Nat.le_refl _) _) (fun _ h => h))
            · rw [if_neg h4] at hst
              have Hst := Lib.hid hst
              have h4' : ¬ (st.has q : Int) < S.length := by omega
              have hat1 : st.at_ q ≤ 1000 := by
                have e1 := cnt_succ js q hq
                have e2 := cnt_le js (q + 1)
                have e3 : (jobAt js q).length = (js.getD q []).length := rfl
                omega
              have hA0 := hPI.out.o2
              clear hst h3
              go_wp2_with fail
              refine Hsec.out.mono ?_
              rintro e w4 ⟨ao4, c4, rfl, hI4, hle4, hF4, hB4⟩
              have hP4 := hPI.out.grow hB4
              obtain ⟨hd0, hd1, hd2, hg1, hg2⟩ := hP4.cells hq
              have HP4 := Lib.hid hP4
              obtain ⟨ao5, c5, e5, hz5 | ⟨sb, so, rfl, hcs⟩⟩ := id hI4
              · omega
              injection e5 with e5 _ e6
              subst e5 e6
              have hsb : sb ≠ Lb := by have := hF4 sb rfl; omega
              have HI4 := Lib.hid hI4
              clear hcs hI4 hP4 hPI hc0 hc1 hc2 hf1 hf2
              go_wp2_with fail
              clear hd0 hd1 hd2 hg1 hg2
              go_loopw [98] (fun i wi => ∃ j : Nat, j ≤ S.length ∧ i = .int .i64 j ∧ Hid (PI w wi Lb Ab js.length jv { st with own := giveAll st.own (S.take j) q } dv) ∧ Hid (IsInts wi (.slice (some ⟨sb, so, none⟩) S.length c4) S)) (fun i _ => S.length - (intOf i).toNat)
              case atStart => exact ⟨0, Nat.zero_le _, rfl, HP4.out, HI4.out⟩
              case round =>
                obtain ⟨j, hj, rfl, hPj, hIj⟩ := hrel
                clear HP4 HI4
                by_cases hjl : j < S.length
                · obtain ⟨aol, cl, hl1, hl2, hl3⟩ := hPj.out.lv
                  have hlf := hPj.out.lf
                  have hLt := hPj.out.lt
                  have hol := Hsi.out.own
                  have hgl := giveAll_len (S.take j) st.own q
                  obtain ⟨ao5, c5, e5, hz5 | ⟨sb2, so2, e7, hcs⟩⟩ := id hIj.out
                  · omega
                  have hcs1 := hcs j hjl
                  injection e5 with e5 _ e6
                  subst e7
                  injection e5 with e5
                  injection e5 with e8 e9
                  subst e8 e9
                  have hgs : giveAll st.own (S.take (j + 1)) q = (giveM (giveAll st.own (S.take j) q) (nth S j) q).1 := by
                    rw [List.take_succ_eq_append_getElem hjl, giveAll_snoc, nth_lt]
                  obtain ⟨G, eG⟩ : ∃ G, G = giveAll st.own (S.take j) q := ⟨_, rfl⟩
                  rw [← eG] at hPj hgs hl1 hl2 hl3 hgl
                  have Hgs := Lib.hid hgs
                  have Hl3 := Lib.hid hl3
                  have Hl2 := Lib.hid hl2
                  simp only at hl1
                  clear hcs e6 eG hgs hl3 hl2
                  go_wp2_with fail
                  refine (give_any _ G _ _ _ Hl2.out (by omega)).mono ?_
                  intro e w5 hgv
                  obtain ⟨ao6, c6, rfl, hI6, hF6, hB6⟩ := hgv.slice
                  have k1 := (hB6.cell (p := ⟨Lb, 0, none⟩) (by simp only; omega)).trans hl1
                  have k2 := (hB6.frozen (p := ⟨Lb, 0, none⟩) (by simp only; omega)).trans hlf
                  clear hgv hl1 hlf hcs1
                  go_wp2_with fail
                  go_roundw
                  case rel => exact ⟨j + 1, by omega, by go_num, by
                    rw [Hgs.out]
                    refine Lib.hid ((hPj.out.grow hB6).setL hI6 (fun _ q' hq' => ?_))
                    have h5 := hF6 q' hq'
                    have h6 := hPj.out.o1
                    have h7 := hPj.out.o2
                    exact ⟨by omega, by omega, by omega, fun e => by have := (hPj.out.done.lt q' e).2; omega⟩,
                    Lib.hid ((hIj.out.grow hB6).fr0 (Fr.setCell (S := (· = Lb)) (p := ⟨Lb, 0, none⟩) (Fr.refl _ _) (fun _ => rfl) _) (fun _ q' hq' e => by simp [Value.ownBlock] at hq'; omega))⟩
                  case measure => simp [intOf]; omega
                · obtain rfl : j = S.length := by omega
                  rw [List.take_length] at hPj
                  have hdl := Hsi.out.dn
                  have hLt := hPj.out.lt
                  go_wp2_with (at_builtin; refine wpList_append_own2 _ rfl (.tmp 110) (.tmp 112) 23 rfl (Ab + 1) 3 i3 (.int .i64 0) 1 8 Try.underlying23 Hi3.out Hz03.out Hz13.out Hz23.out rfl (by decide) dv st.dn.length (st.dn.map (Value.int .i64)) rfl (hPj.out.done.alloc _) ⟨wr.heap.size, 0, none⟩ 1 1 [.int .i64 (q : Int)] rfl rfl (cell_one_new _ _ _) ?c2 ?c3 ?c4 ?c5 ?_)
                  case c2 => intro x hx; simp at hx; subst hx; rfl
                  case c3 => unfold maxLen; omega
                  case c4 => omega
                  case c5 => simp; omega
                  intro v5 w5 hown5 hgr5 hor5
                  have hP5 := hPj.out.add (p := (q : Int)) _ hown5 hgr5 (by simpa using hor5)
                  obtain ⟨hd0, hd1, hd2, hg1, hg2⟩ := hP5.cells hq
                  simp only at hd1 hd2
                  have HP5 := Lib.hid hP5
                  clear hown5 hgr5 hor5 hP5 hPj hIj
                  go_wp2_with fail
                  go_step3
                  refine ⟨rfl, ?_, by simp [intOf]; omega⟩
                  refine JP.pack (k := k + 1) (by omega) ?_
                  rw [Hsu.out, Hst.out]
                  have h7 := HP5.out.setA jv (upd st.at_ q (st.at_ q + 1)) st.has (q * 3 + 1) (.int .i64 ((st.at_ q : Int) + 1)) (by
                    have := allA_set1 jv st.at_ st.has (st.at_ q + 1) hq
                    simpa using this)
                  exact h7.setA jv (upd st.at_ q (st.at_ q + 1)) (upd st.has q 0) (q * 3 + 2) (.int .i64 0) (by
                    have := allA_set2 jv (upd st.at_ q (st.at_ q + 1)) st.has 0 hq
                    simpa using this)
          · have hat := Hsi.out.at_ q hq
            have hst : stepM js ord st (q : Int) = st := by
              unfold stepM
              rw [if_neg (by omega), Int.toNat_natCast, if_neg h3]
            have Hst := Lib.hid hst
            have he : st.at_ q = (jobAt js q).length := by omega
            rw [he] at hc1
            clear hst he hat h3
            go_wp2_with fail
            refine (sec_done _ _ _ _ _ _ hjq hc0 hc1).mono ?_
            rintro e w' ⟨rfl, nq, rfl⟩
            go_wp2_with fail
            go_step3
            refine ⟨rfl, ?_, ?_⟩
            · exact JP.pack (k := k + 1) (by omega) (by rw [Hsu.out, Hst.out]; exact hPI.out.grow (drewN_below _ _ _))
            · simp [intOf]; omega
    · obtain rfl : k = ps.length := by omega
      rw [List.take_length] at hPI
      obtain ⟨st, est⟩ : ∃ st, st = runM js ord (startM n) ps := ⟨_, rfl⟩
      have hsi := sInv_run js ord n ps ps.length (Nat.le_refl _)
      rw [List.take_length] at hsi
      have hans : playM n js ord ps = ⟨st.own, waitsM js ord st js.length, st.dn, 0⟩ := by
        unfold playM
        rw [Hnew.out, if_neg (by simp), if_neg (by omega), if_neg (by rw [hr]; simp), est]
      rw [← est] at hPI hsi
      have Hsi := Lib.hid hsi
      rw [hans]
      clear hsi est hans
      obtain ⟨i4, hi, hz0, hz1, hz2⟩ := info_parts Try.info43
      have Hi4 := Lib.hid hi
      have Hz04 := Lib.hid hz0
      have Hz14 := Lib.hid hz1
      have Hz24 := Lib.hid hz2
      clear hi hz0 hz1 hz2
      have HP0 := hPI
      obtain ⟨W0, rfl⟩ : ∃ W0 : World, W0 = wr := ⟨_, rfl⟩
      clear hPI
      go_wp2_with fail
      go_loopw [26, 162] (fun v i wi => ∃ (j : Nat) (hv : Nat → Value), j ≤ js.length ∧ i = .int .i64 j ∧ Hid (OutI W0 wi v j hv (waitM js ord st))) (fun _ i _ => js.length - (intOf i).toNat)
      case atStart => exact ⟨0, _, Nat.zero_le _, rfl, OutI.start _ _⟩
      case round =>
        obtain ⟨j, hv, hj, rfl, hO⟩ := hrel
        have hPj := HP0.out.fr hO.out.fr (fun _ h => h)
        by_cases hjl : j < js.length
        · have hPb := hPj.grow (((Below.refl _ _).alloc (Nat.le_refl _) (.cells #[.slice none 0 0, .int .i64 (-1)] 43)))
          have hjq := (Hj.out j hjl).grow hPb.below
          obtain ⟨hc0, hc1, hc2, _, _⟩ := hPb.cells hjl
          have hlt := hPj.lt
          have hAs := hO.out.fr.size
          by_cases h3 : st.at_ j < (jobAt js j).length
          · obtain ⟨S, eS⟩ : ∃ S, S = secAt js ord st j := ⟨_, rfl⟩
            have hsec := sec_any Ab (j * 3) (st.at_ j) (jv j) (jobAt js j) ord _ hjq hc0 hc1 h3
            have hS1 : S.length ≤ 2 := by rw [eS]; exact (secM_len _ _ _).2
            have hS0 : 1 ≤ S.length := by rw [eS]; exact (secM_len _ _ _).1
            have hhas := Hsi.out.has j hjl h3
            change Calls _ _ _ _ (Makes _ (secAt js ord st j)) at hsec
            have hwm : waitM js ord st j = (S.take (st.has j), if st.has j < S.length then nth S (st.has j) else -1) := by
              unfold waitM; rw [if_pos h3, ← eS]
            rw [← eS] at hsec hhas
            have Hsec := Lib.hid hsec
            have hS0' : (0 : Int) < S.length := by omega
            clear hsec eS h3
            by_cases h4 : st.has j < S.length
            · rw [if_pos h4] at hwm
              have Hwm := Lib.hid hwm
              have h4' : (st.has j : Int) < S.length := by omega
              clear hwm
              go_wp2_with fail
              refine Hsec.out.mono ?_
              rintro e w4 ⟨ao4, c4, rfl, hI4, hle4, hF4, hB4⟩
              have hP4 := hPb.grow hB4
              obtain ⟨hd0, hd1, hd2, _, _⟩ := hP4.cells hjl
              have m0 := new_kept_cell (i := 0) hB4 rfl
              have m1 := new_kept_cell (i := 1) hB4 rfl
              have m2 := new_kept_frozen (i := 0) hB4
              have m3 := new_kept_frozen (i := 1) hB4
              simp only [World.size_alloc] at hF4
              have hB5 : Below wr.heap.size wr w4 := ((Below.refl _ _).alloc (Nat.le_refl _) _).trans (hB4.mono (by simp))
              have HI4 := Lib.hid hI4
              obtain ⟨ao5, c5, e5, hz5 | ⟨sb, so, rfl, hcs⟩⟩ := id hI4
              · omega
              injection e5 with e5 _ e6
              subst e5 e6
              have hs1 := hcs (st.has j) h4
              have hnX : (⟨wr.heap.size, 0, none⟩ : Addr) ≠ ⟨Ab, j * 3 + 2, none⟩ := by intro e; injection e with e; omega
              have hsb := hF4 sb rfl
              have hnY : (⟨wr.heap.size, 0, none⟩ : Addr) ≠ ⟨sb, so + st.has j, none⟩ := by intro e; injection e with e; omega
              have hhc : (st.has j : Int) ≤ c4 := by omega
              clear hcs hI4 hP4 hPb hPj hc0 hc1 hc2 hd0 hd1 hB4
              have hBJ : Below wr.heap.size wr ((w4.setCell ⟨wr.heap.size, 0, none⟩ (.slice (some ⟨sb, so, none⟩) (st.has j) c4)).setCell ⟨wr.heap.size, 1, none⟩ (.int .i64 (nth S (st.has j)))) := (hB5.setCell (p := ⟨wr.heap.size, 0, none⟩) (Nat.le_refl _) _).setCell (p := ⟨wr.heap.size, 1, none⟩) (Nat.le_refl _) _
              have HJ := Lib.hid (owns_fr hO.out.row (Fr.ofBelow (S := fun _ => False) hBJ) (fun _ _ h => h))
              have hIJ : IsInts ((w4.setCell ⟨wr.heap.size, 0, none⟩ (.slice (some ⟨sb, so, none⟩) (st.has j) c4)).setCell ⟨wr.heap.size, 1, none⟩ (.int .i64 (nth S (st.has j)))) (.slice (some ⟨sb, so, none⟩) (st.has j) c4) (waitM js ord st j).1 := by
                rw [Hwm.out]
                have hf : Fr (· = wr.heap.size) w4 ((w4.setCell ⟨wr.heap.size, 0, none⟩ (.slice (some ⟨sb, so, none⟩) (st.has j) c4)).setCell ⟨wr.heap.size, 1, none⟩ (.int .i64 (nth S (st.has j)))) := Fr.setCell (S := (· = wr.heap.size)) (p := ⟨wr.heap.size, 1, none⟩) (Fr.setCell (S := (· = wr.heap.size)) (p := ⟨wr.heap.size, 0, none⟩) (Fr.refl _ _) (fun _ => rfl) _) (fun _ => rfl) _
                exact (HI4.out.take _ hhas).fr0 hf (fun _ q hq e => by simp [Value.ownBlock] at hq; omega)
              have HIJ := Lib.hid hIJ
              have HSZ : Hid (w4.heap.size = ((w4.setCell ⟨wr.heap.size, 0, none⟩ (.slice (some ⟨sb, so, none⟩) (st.has j) c4)).setCell ⟨wr.heap.size, 1, none⟩ (.int .i64 (nth S (st.has j)))).heap.size) := Lib.hid (by simp)
              clear hIJ
              go_wp2_with (at_builtin; refine wpList_append_own2 _ rfl (.tmp 199) (.tmp 201) 30 rfl W0.heap.size 43 i4 _ 2 32 Try.underlying30 Hi4.out Hz04.out Hz14.out Hz24.out rfl (by decide) _ j (outC hv (waitM js ord st) j) rfl (HJ.out.alloc _) ⟨w4.heap.size, 0, none⟩ 1 1 [.slice (some ⟨sb, so, none⟩) (st.has j) c4, .int .i64 (nth S (st.has j))] rfl rfl (two_new _ _ _ HSZ.out) ?c2 ?c3 ?c4 ?c5 ?_)
              case c2 =>
                intro x hx
                rcases List.mem_cons.1 hx with rfl | hx
                · rfl
                · rcases List.mem_cons.1 hx with rfl | hx
                  · rfl
                  · cases hx
              case c3 => unfold maxLen; omega
              case c4 => omega
              case c5 =>
                have h9 := hBJ.size
                simp at h9 ⊢
                omega
              intro v8 w8 hown8 hgr8 hor8
              have hO8 := hO.out.add hBJ HIJ.out (fun q hq => by simp [Value.ownBlock] at hq; omega) _ (by simp only [Hwm.out]; exact hown8) hgr8 (by simpa using hor8)
              have HO8 := Lib.hid hO8
              obtain ⟨ao9, c9, rfl⟩ := owns_form hown8
              clear hown8 hgr8 hor8 hO8 HJ
              go_wp2_with fail
              go_roundw
              case rel => exact ⟨j + 1, _, by omega, by go_num, HO8⟩
              case measure => simp [intOf]; omega
            · have hhe : st.has j = S.length := by omega
              rw [if_neg h4] at hwm
              have Hwm := Lib.hid hwm
              have h4' : ¬ (st.has j : Int) < S.length := by omega
              clear hwm hhe
              go_wp2_with fail
              refine Hsec.out.mono ?_
              rintro e w4 ⟨ao4, c4, rfl, hI4, hle4, hF4, hB4⟩
              have hP4 := hPb.grow hB4
              obtain ⟨hd0, hd1, hd2, _, _⟩ := hP4.cells hjl
              have m0 := new_kept_cell (i := 0) hB4 rfl
              have m1 := new_kept_cell (i := 1) hB4 rfl
              have m2 := new_kept_frozen (i := 0) hB4
              have m3 := new_kept_frozen (i := 1) hB4
              simp only [World.size_alloc] at hF4
              have hB5 : Below wr.heap.size wr w4 := ((Below.refl _ _).alloc (Nat.le_refl _) _).trans (hB4.mono (by simp))
              have HI4 := Lib.hid hI4
              obtain ⟨ao5, c5, e5, hz5 | ⟨sb, so, rfl, hcs⟩⟩ := id hI4
              · omega
              injection e5 with e5 _ e6
              subst e5 e6
              have hnX : (⟨wr.heap.size, 0, none⟩ : Addr) ≠ ⟨Ab, j * 3 + 2, none⟩ := by intro e; injection e with e; omega
              have hsb := hF4 sb rfl
              have hhc : (st.has j : Int) ≤ c4 := by omega
              clear hcs hI4 hP4 hPb hPj hc0 hc1 hc2 hd0 hd1 hB4
              have hBJ : Below wr.heap.size wr (w4.setCell ⟨wr.heap.size, 0, none⟩ (.slice (some ⟨sb, so, none⟩) (st.has j) c4)) := hB5.setCell (p := ⟨wr.heap.size, 0, none⟩) (Nat.le_refl _) _
              have HJ := Lib.hid (owns_fr hO.out.row (Fr.ofBelow (S := fun _ => False) hBJ) (fun _ _ h => h))
              have hIJ : IsInts (w4.setCell ⟨wr.heap.size, 0, none⟩ (.slice (some ⟨sb, so, none⟩) (st.has j) c4)) (.slice (some ⟨sb, so, none⟩) (st.has j) c4) (waitM js ord st j).1 := by
                rw [Hwm.out]
                have hf : Fr (· = wr.heap.size) w4 (w4.setCell ⟨wr.heap.size, 0, none⟩ (.slice (some ⟨sb, so, none⟩) (st.has j) c4)) := Fr.setCell (S := (· = wr.heap.size)) (p := ⟨wr.heap.size, 0, none⟩) (Fr.refl _ _) (fun _ => rfl) _
                exact (HI4.out.take _ hhas).fr0 hf (fun _ q hq e => by simp [Value.ownBlock] at hq; omega)
              have HIJ := Lib.hid hIJ
              have HSZ : Hid (w4.heap.size = (w4.setCell ⟨wr.heap.size, 0, none⟩ (.slice (some ⟨sb, so, none⟩) (st.has j) c4)).heap.size) := Lib.hid (by simp)
              clear hIJ
              go_wp2_with (at_builtin; refine wpList_append_own2 _ rfl (.tmp 199) (.tmp 201) 30 rfl W0.heap.size 43 i4 _ 2 32 Try.underlying30 Hi4.out Hz04.out Hz14.out Hz24.out rfl (by decide) _ j (outC hv (waitM js ord st) j) rfl (HJ.out.alloc _) ⟨w4.heap.size, 0, none⟩ 1 1 [.slice (some ⟨sb, so, none⟩) (st.has j) c4, .int .i64 (-1)] rfl rfl (two_new _ _ _ HSZ.out) ?c2 ?c3 ?c4 ?c5 ?_)
              case c2 =>
                intro x hx
                rcases List.mem_cons.1 hx with rfl | hx
                · rfl
                · rcases List.mem_cons.1 hx with rfl | hx
                  · rfl
                  · cases hx
              case c3 => unfold maxLen; omega
              case c4 => omega
              case c5 =>
                have h9 := hBJ.size
                simp at h9 ⊢
                omega
              intro v8 w8 hown8 hgr8 hor8
              have hO8 := hO.out.add hBJ HIJ.out (fun q hq => by simp [Value.ownBlock] at hq; omega) _ (by simp only [Hwm.out]; exact hown8) hgr8 (by simpa using hor8)
              have HO8 := Lib.hid hO8
              obtain ⟨ao9, c9, rfl⟩ := owns_form hown8
              clear hown8 hgr8 hor8 hO8 HJ
              go_wp2_with fail
              go_roundw
              case rel => exact ⟨j + 1, _, by omega, by go_num, HO8⟩
              case measure => simp [intOf]; omega
          · have hat := Hsi.out.at_ j hjl
            have he : st.at_ j = (jobAt js j).length := by omega
            have hwm : waitM js ord st j = ([], -1) := by unfold waitM; rw [if_neg h3]
            have Hwm := Lib.hid hwm
            rw [he] at hc1
            clear hwm he hat h3
            go_wp2_with fail
            refine (sec_done _ _ _ _ _ _ hjq hc0 hc1).mono ?_
            rintro e w' ⟨rfl, nq, rfl⟩
            have hBJ : Below wr.heap.size wr ((wr.alloc (.cells #[.slice none 0 0, .int .i64 (-1)] 43)).drewN nq) := ((Below.refl _ _).alloc (Nat.le_refl _) _).trans (drewN_below _ _ _)
            have HJ := Lib.hid (owns_fr hO.out.row (Fr.ofBelow (S := fun _ => False) hBJ) (fun _ _ h => h))
            have HIJ : Hid (IsInts ((wr.alloc (.cells #[.slice none 0 0, .int .i64 (-1)] 43)).drewN nq) (.slice none 0 0) (waitM js ord st j).1) := by
              rw [Hwm.out]; exact IsInts.nil _
            have HSZ : Hid (wr.heap.size + 1 = ((wr.alloc (.cells #[.slice none 0 0, .int .i64 (-1)] 43)).drewN nq).heap.size) := Lib.hid (by show _ = (wr.alloc _).heap.size; simp)
            clear hPb hPj hc0 hc1 hc2
            go_wp2_with (at_builtin; refine wpList_append_own2 _ rfl (.tmp 199) (.tmp 201) 30 rfl W0.heap.size 43 i4 _ 2 32 Try.underlying30 Hi4.out Hz04.out Hz14.out Hz24.out rfl (by decide) _ j (outC hv (waitM js ord st) j) rfl (HJ.out.alloc _) ⟨wr.heap.size + 1, 0, none⟩ 1 1 [.slice none 0 0, .int .i64 (-1)] rfl rfl (two_new _ _ _ HSZ.out) ?c2 ?c3 ?c4 ?c5 ?_)
            case c2 =>
              intro x hx
              rcases List.mem_cons.1 hx with rfl | hx
              · rfl
              · rcases List.mem_cons.1 hx with rfl | hx
                · rfl
                · cases hx
            case c3 => unfold maxLen; omega
            case c4 => omega
            case c5 =>
              have h9 := hBJ.size
              simp at h9 ⊢
              omega
            intro v8 w8 hown8 hgr8 hor8
            have hO8 := hO.out.add hBJ HIJ.out (From.nil _) _ (by simp only [Hwm.out]; exact hown8) hgr8 (by simpa using hor8)
            have HO8 := Lib.hid hO8
            obtain ⟨ao9, c9, rfl⟩ := owns_form hown8
            clear hown8 hgr8 hor8 hO8 HJ
            go_wp2_with fail
            go_roundw
            case rel => exact ⟨j + 1, _, by omega, by go_num, HO8⟩
            case measure => simp [intOf]; omega
        · obtain rfl : j = js.length := by omega
          have hres := hPj.res
          have hresf := hPj.resf
          obtain ⟨aol, cl, hl1, hl2, hl3⟩ := hPj.lv
          have hdn := IsInts.ofRow hPj.done
          have hbel := hPj.below
          have hlt := hPj.lt
          have ho1 := hPj.o1
          have ho2 := hPj.o2
          have HP := Lib.hid hPj
          clear hPj
          obtain ⟨aod, cd, rfl⟩ := owns_form HP.out.done
          obtain ⟨aov, cv, rfl⟩ := owns_form hO.out.row
          go_wp2_with fail
          simp only [Exit.jump]
          have hfS : Fr (· = w.heap.size) wr (wr.setCell ⟨w.heap.size, 0, none⟩ (.slice aol st.own.length cl)) := Fr.setCell (S := (· = w.heap.size)) (p := ⟨w.heap.size, 0, none⟩) (Fr.refl _ _) (fun _ => rfl) _
          refine bodyPost_ret (v := .tuple #[.agg #[.slice aol st.own.length cl], .slice aov js.length cv, .slice aod st.dn.length cd, .int .i64 0]) (by simp [results, Try.results5, go_sem, hres]) rfl ⟨_, _, _, rfl, ?_, ?_, ?_, ?_⟩
          · exact hl2.fr0 hfS (fun h0 q hq e => (hl3 h0 q hq).1 e)
          · exact hO.out.waiters hfS (fun q hq => by have h9 := HP0.out.lt; subst hq; omega)
          · exact hdn.fr0 hfS (fun _ q hq e => by have h9 := (HP.out.done.lt q hq).1; omega)
          · exact hbel.setCell (by simp) _
  · intro hpass
    go_wp2_with fail
    refine (new_any _ _).mono ?_
    rw [Hnew.out]
    rintro e w1 hg
    obtain ⟨aol, cl, rfl, hil, hfl, hbl⟩ := hg.slice
    simp only [List.length_replicate, World.size_alloc] at hil hfl hbl
    clear hg
    simp only [List.length_replicate]
    have hs1 := hbl.size
    simp only [World.size_alloc] at hs1
    have hJs : ∀ wx, Below w.heap.size w wx → IsJobs wx (.slice aj js.length c) js := fun wx hx => by
      by_cases h0 : js.length = 0
      · exact ⟨_, c, rfl, .inl h0⟩
      · obtain ⟨b, off, eb, _⟩ := Hcj.out 0 (by omega)
        refine ⟨_, c, rfl, .inr ⟨b, off, eb, fun i hi => ?_⟩⟩
        obtain ⟨b2, off2, eb2, h1⟩ := Hcj.out i hi
        rw [eb] at eb2
        injection eb2 with eb2
        injection eb2 with e1 e2
        subst e1 e2
        exact ⟨jv i, (hx.cell (p := ⟨b, off + i, none⟩) (World.block_lt_of_cell? w _ h1)).trans h1, (Hj.out i hi).grow hx⟩
    have HJs := Lib.hid hJs
    have hBa : Below w.heap.size w (w1.alloc (.cells #[.slice aol n cl] 29)) := (((Below.refl _ _).alloc (Nat.le_refl _) _).trans (hbl.mono (by omega))).alloc (by omega) _
    have HBa := Lib.hid hBa
    clear hJs hBa
    go_wp2_with fail
    refine (right_any _ _ js _ (HJs.out _ HBa.out) (by omega) hc).mono ?_
    rintro e w2 ⟨rfl, hb2⟩
    rw [hr]
    have hs2 := hb2.size
    simp only [World.size_alloc] at hs2
    go_wp2_with (at_make; refine wpList_make_full _ rfl (.tmp 57) (.tmp 57) 47 rfl w2.heap.size 49 i0 _ 3 Try.underlying47 Hi.out Hz0.out Hz1.out .i64 .i64 _ _ js.length rfl rfl rfl rfl ?_ ?_ ?_ ?_)
    · rw [Hz2.out]; omega
    · unfold maxLen; omega
    · exact Nat.le_refl _
    intro w3 hown3 hgr3
    have hP : PI w w3 w1.heap.size w2.heap.size js.length (fun _ => .slice none 0 0) (startM n) (.slice none 0 0) := by
      have hn1 : (startM (n : Int)).own = List.replicate n (-1) := by show (newM (n : Int)).1 = _; rw [Hnew.out]
      have hf3 : Fr (fun _ => False) w2 w3 := (Fr.refl _ _).grown hgr3 (fun _ h => by cases h)
      have hf2 : Fr (fun _ => False) (w1.alloc (.cells #[.slice aol n cl] 29)) w2 := Fr.ofBelow hb2
      have hf1 : Fr (fun _ => False) (w.alloc (.cells #[.slice none 0 0] 29)) w1 := ⟨hbl.os, hbl.tape, hbl.output, by simpa using hbl.size, fun k hk _ => hbl.block k (by simpa using hk)⟩
      have hfa : Fr (fun _ => False) (w.alloc (.cells #[.slice none 0 0] 29)) w3 := ((hf1.alloc _).trans hf2).trans hf3
      have hfb : Fr (fun _ => False) (w1.alloc (.cells #[.slice aol n cl] 29)) w3 := hf2.trans hf3
      refine ⟨(HBa.out.trans (hb2.mono (by simp; omega))).grown hgr3 (by omega) (fun k h => by cases h), by omega, by omega, hfa.cell (new_cell rfl rfl) (fun h => h), (hfa.frozen (by simp) (fun h => h)).trans (new_frozen rfl), ?_, (hfb.frozen (by simp) (fun h => h)).trans (new_frozen rfl), ?_, World.ownsRow_nil _ _ _ _⟩
      · rw [hn1, List.length_replicate]
        refine ⟨aol, cl, hfb.cell (new_cell rfl rfl) (fun h => h), (hil.alloc _).fr hfb (fun _ _ h => h), fun h0 q hq => ?_⟩
        have h5 := hfl q hq
        have h6 := ints_lt hil (by simpa using h0) hq
        exact ⟨by omega, by omega, by omega, by simp [Value.ownBlock]⟩
      · rw [show allA (fun _ => Value.slice none 0 0) (startM (n : Int)).at_ (startM (n : Int)).has js.length = (madeCells (Value.agg #[.slice none 0 0, .int .i64 0, .int .i64 0]).cells (js.length * 3)).toList from (made_allA _).symm]
        exact hown3
    have HP := Lib.hid hP
    obtain ⟨Lb, eL⟩ : ∃ Lb, Lb = w1.heap.size := ⟨_, rfl⟩
    obtain ⟨Ab, eA⟩ : ∃ Ab, Ab = w2.heap.size := ⟨_, rfl⟩
    rw [← eL, ← eA] at HP
    have EL := Lib.hid eL
    have EA := Lib.hid eA
    clear hown3 hgr3 hP hb2 hbl hil hfl eL eA hs1 hs2
    go_wp2_with fail
    rw [← EL.out, ← EA.out]
    go_loopw [61] (fun i wi => ∃ j : Nat, j ≤ js.length ∧ i = .int .i64 j ∧ Hid (PI w wi Lb Ab js.length (fun q => if q < j then jv q else .slice none 0 0) (startM n) (.slice none 0 0))) (fun i _ => js.length - (intOf i).toNat)
    case atStart => exact ⟨0, Nat.zero_le _, rfl, by simpa using HP⟩
    case round =>
      obtain ⟨j, hj, rfl, hPj⟩ := hrel
      clear HP
      by_cases hjl : j < js.length
      · have h2 := Hj.out j hjl
        obtain ⟨b, off, eb, h1⟩ := Hcj.out j hjl
        subst eb
        have h3 := (hPj.out.below.cell (p := ⟨b, off + j, none⟩) (World.block_lt_of_cell? w _ h1)).trans h1
        obtain ⟨hd0, _, _, _, _⟩ := hPj.out.cells hjl
        rw [if_neg (Nat.lt_irrefl j)] at hd0
        have hdf := hPj.out.all.frozenAt (j * 3)
        obtain ⟨aoj, cj, ej, _⟩ := h2.form
        have hPn := hPj.out.setA (fun q => if q < j + 1 then jv q else .slice none 0 0) (startM n).at_ (startM n).has (j * 3) (jv j) (by
          rw [allA_set0 _ _ _ _ hjl]
          congr 1
          funext q
          by_cases e : q = j
          · subst e; simp
          · by_cases e2 : q < j
            · rw [if_neg e, if_pos e2, if_pos (by omega)]
            · rw [if_neg e, if_neg e2, if_neg (by omega)])
        have HPn := Lib.hid hPn
        rw [ej] at h3 HPn
        clear h1 h2 hPj hPn ej
        go_wp2_with fail
        go_roundw
        case rel => exact ⟨j + 1, by omega, by go_num, HPn⟩
        case measure => simp [intOf]; omega
      · obtain rfl : j = js.length := by omega
        have HPk : Hid (PI w wr Lb Ab js.length jv (runM js ord (startM n) (ps.take 0)) (.slice none 0 0)) := hPj.out.jvs (fun q hq => if_pos hq)
        clear hPj
        go_wp2_with fail
        go_step3
        go_step
        go_step
        exact hpass _ _ (JP.pack (k := 0) (Nat.zero_le _) HPk.out)
end Go.Proofs.Ytnammleaglmjaaa
