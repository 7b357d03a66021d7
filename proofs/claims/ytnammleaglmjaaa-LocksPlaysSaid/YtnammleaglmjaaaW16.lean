/- The reference plays as the plain words say, where it answers no. Conditions: at most 1000 jobs, sections and picks. -/
import Derived.Test.YtnammleaglmjaaaW14
import Derived.Test.YtnammleaglmjaaaW15
namespace Go.Proofs.Ytnammleaglmjaaa
open Go.RowKit

theorem getD_elem {α : Type} (l : List α) (d : α) {i : Nat} (h : i < l.length) : l.getD i d = l[i] := by simp [List.getD, h]

theorem right_jobs {n : Int} {js : List (List (Int × Int))} (h : ∀ q, q < js.length → (jobAt js q).all (okSec n) = true) : rightM n js = true := by
  unfold rightM
  rw [List.all_eq_true]
  intro s hs
  obtain ⟨l, hl, hsl⟩ := List.mem_flatten.1 hs
  obtain ⟨i, hi, rfl⟩ := List.getElem_of_mem hl
  have := h i hi
  unfold jobAt at this
  rw [getD_elem _ _ hi, List.all_eq_true] at this
  exact this s hsl

theorem job_all {n : Int} {l : List (Int × Int)} (h : ∀ q, q < l.length → okSec n (l.getD q (0, 0)) = true) : l.all (okSec n) = true := by
  rw [List.all_eq_true]
  intro s hs
  obtain ⟨i, hi, rfl⟩ := List.getElem_of_mem hs
  have := h i hi
  rwa [getD_elem _ _ hi] at this

theorem jobs_right {n : Int} {js : List (List (Int × Int))} (h : rightM n js = true) {k j : Nat} (hk : k < js.length) (hj : j < (jobAt js k).length) : okSec n ((jobAt js k).getD j (0, 0)) = true := by
  unfold rightM at h
  rw [List.all_eq_true] at h
  refine h _ (List.mem_flatten.2 ⟨jobAt js k, ?_, ?_⟩)
  · unfold jobAt; rw [getD_elem _ _ hk]; exact List.getElem_mem _
  · rw [getD_elem _ _ hj]; exact List.getElem_mem _

set_option maxHeartbeats 1600000 in
set_option maxRecDepth 100000 in
theorem rplay_bad (n : Int) (aj : Option Addr) (c : Nat) (ao : Option Addr) (c2 : Nat) (jl pl : Nat) (ord : Bool) (w : World) (h : n < 0 ∨ 65 < n) :
    Calls Try.prog 6 #[.int .i64 n, .slice aj jl c, .bool ord, .slice ao pl c2] w (Plays w ⟨[], [], [], 1⟩) := by
  have hm : newM n = ([], 1) := by simp [newM, h]
  have Hm := Lib.hid hm
  clear hm h
  go_enter Try.func6, Try.ntmps6
  go_wp2_with fail
  refine (rnew_any _ _).mono ?_
  rw [Hm.out]
  rintro e w1 hg
  obtain ⟨aol, cl, rfl, hil, hfl, hbl⟩ := hg.slice
  simp only [List.length_nil, World.size_alloc] at hil hfl hbl
  clear hg
  simp only [List.length_nil]
  have hs1 := hbl.size
  simp only [World.size_alloc] at hs1
  have k0 : w1.cell? ⟨w.heap.size, 0, none⟩ = some (.slice none 0 0) := (hbl.cell (p := ⟨w.heap.size, 0, none⟩) (by simp)).trans (by simp)
  have k1 : w1.frozen? ⟨w.heap.size, 0, none⟩ = false := (hbl.frozen (p := ⟨w.heap.size, 0, none⟩) (by simp)).trans (by simp)
  have k2 := alloc_cell k0 (.cells #[.slice aol 0 cl] 29)
  have k3 := alloc_frozen (p := ⟨w.heap.size, 0, none⟩) (by simp only; omega) k1 (.cells #[.slice aol 0 cl] 29)
  clear k0 k1
  go_wp2_with fail
  refine bodyPost_ret (v := .tuple #[.agg #[.slice none 0 0], .slice none 0 0, .slice none 0 0, .int .i64 1]) (by simp [results, Try.results6, go_sem, k2]) rfl (plays_err _ _ _ ?_)
  exact ((((Below.refl _ _).alloc (Nat.le_refl _) _).trans (hbl.mono (by omega))).alloc (by omega) _).setCell (by simp) _

set_option maxHeartbeats 1600000 in
set_option maxRecDepth 100000 in
theorem rplay_long (n : Nat) (aj : Option Addr) (c : Nat) (ao : Option Addr) (c2 : Nat) (jl pl : Nat) (ord : Bool) (w : World) (hn : n ≤ 65) (hl : 64 < jl) :
    Calls Try.prog 6 #[.int .i64 (n : Int), .slice aj jl c, .bool ord, .slice ao pl c2] w (Plays w ⟨[], [], [], 2⟩) := by
  have hnew : newM (n : Int) = (List.replicate n (-1), 0) := by simp [newM]; omega
  have Hm := Lib.hid hnew
  have hl' : (64 : Int) < (jl : Int) := by omega
  clear hnew hl
  go_enter Try.func6, Try.ntmps6
  go_wp2_with fail
  refine (rnew_any _ _).mono ?_
  rw [Hm.out]
  rintro e w1 hg
  obtain ⟨aol, cl, rfl, hil, hfl, hbl⟩ := hg.slice
  simp only [List.length_replicate, World.size_alloc] at hil hfl hbl
  clear hg
  simp only [List.length_replicate]
  have hs1 := hbl.size
  simp only [World.size_alloc] at hs1
  have k0 : w1.cell? ⟨w.heap.size, 0, none⟩ = some (.slice none 0 0) := (hbl.cell (p := ⟨w.heap.size, 0, none⟩) (by simp)).trans (by simp)
  have k1 : w1.frozen? ⟨w.heap.size, 0, none⟩ = false := (hbl.frozen (p := ⟨w.heap.size, 0, none⟩) (by simp)).trans (by simp)
  have k2 := alloc_cell k0 (.cells #[.slice aol n cl] 29)
  have k3 := alloc_frozen (p := ⟨w.heap.size, 0, none⟩) (by simp only; omega) k1 (.cells #[.slice aol n cl] 29)
  clear k0 k1
  go_wp2_with fail
  refine bodyPost_ret (v := .tuple #[.agg #[.slice none 0 0], .slice none 0 0, .slice none 0 0, .int .i64 2]) (by simp [results, Try.results6, go_sem, k2]) rfl (plays_err _ _ _ ?_)
  exact ((((Below.refl _ _).alloc (Nat.le_refl _) _).trans (hbl.mono (by omega))).alloc (by omega) _).setCell (by simp) _

set_option maxHeartbeats 1600000 in
set_option maxRecDepth 100000 in
theorem rplay_wrong (n : Nat) (aj : Option Addr) (c : Nat) (ao : Option Addr) (c2 : Nat) (js : List (List (Int × Int))) (pl : Nat) (ord : Bool) (w : World) (hn : n ≤ 65) (hl : js.length ≤ 64) (hp : pl ≤ 1000)
   (jv : Nat → Value) (hj : ∀ i, i < js.length → IsJob w (jv i) (jobAt js i)) (hcj : ∀ i, i < js.length → ∃ b off, aj = some ⟨b, off, none⟩ ∧ w.cell? ⟨b, off + i, none⟩ = some (jv i)) (hr : rightM n js = false) (hc : cnt js js.length ≤ 1000) :
    Calls Try.prog 6 #[.int .i64 (n : Int), .slice aj js.length c, .bool ord, .slice ao pl c2] w (Plays w ⟨[], [], [], 1⟩) := by
  have hl' : (js.length : Int) ≤ 64 := by omega
  have hp' : (pl : Int) ≤ 20000 := by omega
  have Hj := Lib.hid hj
  have Hcj := Lib.hid hcj
  have Hr := Lib.hid hr
  clear hj hcj hr
  have hnew : newM (n : Int) = (List.replicate n (-1), 0) := by simp [newM]; omega
  have Hnew := Lib.hid hnew
  clear hnew
  go_enter Try.func6, Try.ntmps6
  go_wp2_with fail
  refine (rnew_any _ _).mono ?_
  rw [Hnew.out]
  rintro e w1 hg
  obtain ⟨aol, cl, rfl, hil, hfl, hbl⟩ := hg.slice
  simp only [List.length_replicate, World.size_alloc] at hil hfl hbl
  clear hg
  simp only [List.length_replicate]
  have hs1 := hbl.size
  simp only [World.size_alloc] at hs1
  have k0 : w1.cell? ⟨w.heap.size, 0, none⟩ = some (.slice none 0 0) := (hbl.cell (p := ⟨w.heap.size, 0, none⟩) (by simp)).trans (by simp)
  have k1 : w1.frozen? ⟨w.heap.size, 0, none⟩ = false := (hbl.frozen (p := ⟨w.heap.size, 0, none⟩) (by simp)).trans (by simp)
  have k2 := alloc_cell k0 (.cells #[.slice aol n cl] 29)
  have k3 := alloc_frozen (p := ⟨w.heap.size, 0, none⟩) (by simp only; omega) k1 (.cells #[.slice aol n cl] 29)
  have hBa : Below w.heap.size w (w1.alloc (.cells #[.slice aol n cl] 29)) := (((Below.refl _ _).alloc (Nat.le_refl _) _).trans (hbl.mono (by omega))).alloc (by omega) _
  obtain ⟨W, eW⟩ : ∃ W, W = w1.alloc (.cells #[.slice aol n cl] 29) := ⟨_, rfl⟩
  have hsW : w.heap.size < W.heap.size := by rw [eW]; simp; omega
  have HBa := Lib.hid (eW ▸ hBa)
  have K2 := Lib.hid (eW ▸ k2)
  have K3 := Lib.hid (eW ▸ k3)
  have EW := Lib.hid eW
  clear k0 k1 hBa k2 k3 eW hil hfl hbl
  go_wp2_with fail
  rw [← EW.out]
  go_loopw [14] (fun i wi => ∃ k : Nat, k ≤ js.length ∧ i = .int .i64 k ∧ Hid (∀ q, q < k → (jobAt js q).all (okSec n) = true) ∧ Hid (Below W.heap.size W wi)) (fun i _ => js.length - (intOf i).toNat)
  case atStart => exact ⟨0, Nat.zero_le _, rfl, Lib.hid (fun q hq => by omega), Lib.hid (Below.refl _ _)⟩
  case round =>
    obtain ⟨k, hk, rfl, hok, hB⟩ := hrel
    obtain ⟨wo, rfl⟩ : ∃ wo : World, wo = wr := ⟨_, rfl⟩
    by_cases hlt : k < js.length
    · obtain ⟨b, off, eb, h1⟩ := Hcj.out k hlt
      subst eb
      have hjk := Hj.out k hlt
      have hsc := (HBa.out.trans (hB.out.mono (by omega)))
      have h2 := (hsc.cell (p := ⟨b, off + k, none⟩) (World.block_lt_of_cell? w _ h1)).trans h1
      have hjk2 := hjk.grow (hsc.mono (Nat.le_refl _))
      obtain ⟨l, el⟩ : ∃ l, l = jobAt js k := ⟨_, rfl⟩
      rw [← el] at hjk2
      obtain ⟨aoj, cj, ej, hcells⟩ := hjk2.form
      have HC := Lib.hid hcells
      have El := Lib.hid el
      have hll : l.length ≤ 1000 := by
        have e1 := cnt_succ js k hlt
        have e2 := cnt_le js (k + 1)
        have e3 : (jobAt js k).length = (js.getD k []).length := rfl
        rw [el]; omega
      rw [ej] at h2
      have H2 := Lib.hid h2
      clear h1 hjk hsc hjk2 ej el hcells
      go_wp2_with fail
      go_loopw [15] (fun i wi => ∃ j : Nat, j ≤ l.length ∧ i = .int .i64 j ∧ Hid (∀ q, q < j → okSec n (l.getD q (0, 0)) = true) ∧ Hid (Below wo.heap.size wo wi)) (fun i _ => l.length - (intOf i).toNat)
      case atStart => exact ⟨0, Nat.zero_le _, rfl, Lib.hid (fun q hq => by omega), Lib.hid (Below.refl _ _)⟩
      case round =>
        obtain ⟨j, hj, rfl, hokj, hBj⟩ := hrel
        have h3 := (hBj.out.cell (p := ⟨b, off + k, none⟩) (World.block_lt_of_cell? wo _ h2)).trans h2
        have hWo := hB.out.size
        have kk := (hBj.out.cell (p := ⟨w.heap.size, 0, none⟩) (by simp only; omega)).trans ((hB.out.cell (p := ⟨w.heap.size, 0, none⟩) (by simp only; omega)).trans K2.out)
        have kf := (hBj.out.frozen (p := ⟨w.heap.size, 0, none⟩) (by simp only; omega)).trans ((hB.out.frozen (p := ⟨w.heap.size, 0, none⟩) (by simp only; omega)).trans K3.out)
        clear h2
        by_cases hjl : j < l.length
        · rcases HC.out with h0 | ⟨jb, jo, rfl, hcc⟩
          · omega
          obtain ⟨x, y, exy⟩ : ∃ x y, l.getD j (0, 0) = (x, y) := ⟨_, _, rfl⟩
          have hx := (hcc j hjl).1
          have hy := (hcc j hjl).2
          rw [exy] at hx hy
          have hx := (hBj.out.cell (p := ⟨jb, jo + j * 2, none⟩) (World.block_lt_of_cell? wo _ hx)).trans hx
          have hy := (hBj.out.cell (p := ⟨jb, jo + j * 2 + 1, none⟩) (World.block_lt_of_cell? wo _ hy)).trans hy
          have EXY := Lib.hid exy
          clear hcc exy
          have hfalse : okSec n (x, y) = false → rightM n js = false := fun h => Hr.out
          by_cases g1 : min x y < 0
          · go_wp2_with fail
            go_quiet (first | (go_at_call 17; refine Calls.quiet_of_same ((rpair_any _ _ _).mono fun e w' h => ⟨h.1, h.2.symm⟩)))
            go_wp2_with fail
            refine bodyPost_ret (v := .tuple #[.agg #[.slice none 0 0], .slice none 0 0, .slice none 0 0, .int .i64 1]) (by simp [results, Try.results6, go_sem, kk]) rfl (plays_err _ _ _ ?_)
            exact (((HBa.out.trans (hB.out.mono (by omega))).trans (hBj.out.mono (by omega))).trans (drewN_below _ _ _)).setCell (by simp) _
          · by_cases g2 : (n : Int) ≤ max x y
            · go_wp2_with fail
              go_quiet (first | (go_at_call 17; refine Calls.quiet_of_same ((rpair_any _ _ _).mono fun e w' h => ⟨h.1, h.2.symm⟩)))
              go_wp2_with fail
              refine bodyPost_ret (v := .tuple #[.agg #[.slice none 0 0], .slice none 0 0, .slice none 0 0, .int .i64 1]) (by simp [results, Try.results6, go_sem, kk]) rfl (plays_err _ _ _ ?_)
              exact (((HBa.out.trans (hB.out.mono (by omega))).trans (hBj.out.mono (by omega))).trans (drewN_below _ _ _)).setCell (by simp) _
            · go_wp2_with fail
              go_quiet (first | (go_at_call 17; refine Calls.quiet_of_same ((rpair_any _ _ _).mono fun e w' h => ⟨h.1, h.2.symm⟩)))
              go_wp2_with fail
              go_roundw
              case rel => exact ⟨j + 1, by omega, by go_num, Lib.hid (fun q hq => by
                by_cases e : q = j
                · rw [e, EXY.out]; unfold okSec; simp only [Bool.and_eq_true, decide_eq_true_eq]; omega
                · exact hokj.out q (by omega)), Lib.hid (hBj.out.trans (drewN_below _ _ _))⟩
              case measure => simp [intOf]; omega
        · obtain rfl : j = l.length := by omega
          go_wp2_with fail
          go_roundw
          case rel => exact ⟨k + 1, by omega, by go_num, Lib.hid (fun q hq => by
            by_cases e : q = k
            · rw [e, ← El.out]; exact job_all hokj.out
            · exact hok.out q (by omega)), Lib.hid (hB.out.trans (hBj.out.mono hWo))⟩
          case measure => simp [intOf]; omega
    · obtain rfl : k = js.length := by omega
      have h := right_jobs hok.out
      rw [Hr.out] at h
      exact absurd h (by decide)
end Go.Proofs.Ytnammleaglmjaaa
