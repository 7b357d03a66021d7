/- The program plays as the plain words say. Conditions: at most 1000 jobs, sections and picks. -/
import Derived.Test.YtnammleaglmjaaaW13
namespace Go.Proofs.Ytnammleaglmjaaa
open Go.RowKit

theorem plays_err (w w' : World) (x : Int) (hb : Below w.heap.size w w') : Plays w ⟨[], [], [], x⟩ (.returned (.tuple #[.agg #[.slice none 0 0], .slice none 0 0, .slice none 0 0, .int .i64 x])) w' :=
  ⟨_, _, _, rfl, IsInts.nil _, ⟨none, 0, rfl, .inl rfl⟩, IsInts.nil _, hb⟩

set_option maxHeartbeats 1600000 in
set_option maxRecDepth 100000 in
theorem play_bad (n : Int) (aj : Option Addr) (c : Nat) (ao : Option Addr) (c2 : Nat) (jl pl : Nat) (ord : Bool) (w : World) (h : n < 0 ∨ 65 < n) :
    Calls Try.prog 5 #[.int .i64 n, .slice aj jl c, .bool ord, .slice ao pl c2] w (Plays w ⟨[], [], [], 1⟩) := by
  have hm : newM n = ([], 1) := by simp [newM, h]
  have Hm := Lib.hid hm
  clear hm h
  go_enter Try.func5, Try.ntmps5
  go_wp2_with fail
  go_step3
  go_wp2_with fail
  refine (new_any _ _).mono ?_
  rw [Hm.out]
  rintro e w1 hg
  obtain ⟨aol, cl, rfl, hil, hfl, hbl⟩ := hg.slice
  simp only [List.length_nil, World.size_alloc] at hil hfl hbl
  clear hg
  simp only [List.length_nil]
  have hs1 := hbl.size
  simp only [World.size_alloc] at hs1
  have k0 : w1.cell? ⟨w.heap.size, 0, none⟩ = some (.slice none 0 0) := (hbl.cell (p := ⟨w.heap.size, 0, none⟩) (by simp)).trans (by simp)
  have k1 : w1.frozen? ⟨w.heap.size, 0, none⟩ = false := (hbl.frozen (p := ⟨w.heap.size, 0, none⟩) (by simp)).trans (by simp)
  have k2 := alloc_cell k0 (.cells #[.slice aol 0 cl] 29)
  have k3 := alloc_frozen (p := ⟨w.heap.size, 0, none⟩) (by simp only; omega) k1 (.cells #[.slice aol 0 cl] 29)
  clear k0 k1
  go_wp2_with fail
  simp only [Exit.noGoto]
  refine bodyPost_ret (v := .tuple #[.agg #[.slice none 0 0], .slice none 0 0, .slice none 0 0, .int .i64 1]) (by simp [results, Try.results5, go_sem, k2]) rfl (plays_err _ _ _ ?_)
  exact ((((Below.refl _ _).alloc (Nat.le_refl _) _).trans (hbl.mono (by omega))).alloc (by omega) _).setCell (by simp) _

set_option maxHeartbeats 1600000 in
set_option maxRecDepth 100000 in
theorem play_long (n : Nat) (aj : Option Addr) (c : Nat) (ao : Option Addr) (c2 : Nat) (jl pl : Nat) (ord : Bool) (w : World) (hn : n ≤ 65) (hl : 64 < jl) :
    Calls Try.prog 5 #[.int .i64 (n : Int), .slice aj jl c, .bool ord, .slice ao pl c2] w (Plays w ⟨[], [], [], 2⟩) := by
  have hnew : newM (n : Int) = (List.replicate n (-1), 0) := by simp [newM]; omega
  have Hm := Lib.hid hnew
  have hl' : (64 : Int) < (jl : Int) := by omega
  clear hnew hl
  go_enter Try.func5, Try.ntmps5
  go_wp2_with fail
  go_step3
  go_wp2_with fail
  refine (new_any _ _).mono ?_
  rw [Hm.out]
  rintro e w1 hg
  obtain ⟨aol, cl, rfl, hil, hfl, hbl⟩ := hg.slice
  simp only [List.length_replicate, World.size_alloc] at hil hfl hbl
  clear hg
  simp only [List.length_replicate]
  have hs1 := hbl.size
  simp only [World.size_alloc] at hs1
  have k0 : w1.cell? ⟨w.heap.size, 0, none⟩ = some (.slice none 0 0) := (hbl.cell (p := ⟨w.heap.size, 0, none⟩) (by simp)).trans (by simp)
  have k1 : w1.frozen? ⟨w.heap.size, 0, none⟩ = false := (hbl.frozen (p := ⟨w.heap.size, 0, none⟩) (by simp)).trans (by simp)
  have k2 := alloc_cell k0 (.cells #[.slice aol n cl] 29)
  have k3 := alloc_frozen (p := ⟨w.heap.size, 0, none⟩) (by simp only; omega) k1 (.cells #[.slice aol n cl] 29)
  clear k0 k1
  go_wp2_with fail
  simp only [Exit.noGoto]
  refine bodyPost_ret (v := .tuple #[.agg #[.slice none 0 0], .slice none 0 0, .slice none 0 0, .int .i64 2]) (by simp [results, Try.results5, go_sem, k2]) rfl (plays_err _ _ _ ?_)
  exact ((((Below.refl _ _).alloc (Nat.le_refl _) _).trans (hbl.mono (by omega))).alloc (by omega) _).setCell (by simp) _

set_option maxHeartbeats 1600000 in
set_option maxRecDepth 100000 in
theorem play_wrong (n : Nat) (aj : Option Addr) (c : Nat) (ao : Option Addr) (c2 : Nat) (js : List (List (Int × Int))) (pl : Nat) (ord : Bool) (w : World) (hn : n ≤ 65) (hl : js.length ≤ 64) (hp : pl ≤ 1000)
    (hj : IsJobs w (.slice aj js.length c) js) (hc : cnt js js.length ≤ 1000) (hr : rightM n js = false) :
    Calls Try.prog 5 #[.int .i64 (n : Int), .slice aj js.length c, .bool ord, .slice ao pl c2] w (Plays w ⟨[], [], [], 1⟩) := by
  have hnew : newM (n : Int) = (List.replicate n (-1), 0) := by simp [newM]; omega
  have Hm := Lib.hid hnew
  have hl' : (js.length : Int) ≤ 64 := by omega
  have hp' : (pl : Int) ≤ 20000 := by omega
  have Hj := Lib.hid hj
  have Hr := Lib.hid hr
  clear hnew hj hr
  go_enter Try.func5, Try.ntmps5
  go_wp2_with fail
  go_step3
  go_wp2_with fail
  refine (new_any _ _).mono ?_
  rw [Hm.out]
  rintro e w1 hg
  obtain ⟨aol, cl, rfl, hil, hfl, hbl⟩ := hg.slice
  simp only [List.length_replicate, World.size_alloc] at hil hfl hbl
  clear hg
  simp only [List.length_replicate]
  have hs1 := hbl.size
  simp only [World.size_alloc] at hs1
  have k0 : w1.cell? ⟨w.heap.size, 0, none⟩ = some (.slice none 0 0) := (hbl.cell (p := ⟨w.heap.size, 0, none⟩) (by simp)).trans (by simp)
  have k1 : w1.frozen? ⟨w.heap.size, 0, none⟩ = false := (hbl.frozen (p := ⟨w.heap.size, 0, none⟩) (by simp)).trans (by simp)
  have k2 := alloc_cell k0 (.cells #[.slice aol n cl] 29)
  have k3 := alloc_frozen (p := ⟨w.heap.size, 0, none⟩) (by simp only; omega) k1 (.cells #[.slice aol n cl] 29)
  have hBa : Below w.heap.size w (w1.alloc (.cells #[.slice aol n cl] 29)) := (((Below.refl _ _).alloc (Nat.le_refl _) _).trans (hbl.mono (by omega))).alloc (by omega) _
  have HBa := Lib.hid hBa
  clear k0 k1 hBa
  go_wp2_with fail
  refine (right_any _ _ js _ (Hj.out.grow HBa.out) (by omega) hc).mono ?_
  rintro e w2 ⟨rfl, hb2⟩
  rw [Hr.out]
  have k4 := (hb2.cell (p := ⟨w.heap.size, 0, none⟩) (by simp; omega)).trans k2
  have k5 := (hb2.frozen (p := ⟨w.heap.size, 0, none⟩) (by simp; omega)).trans k3
  clear k2 k3
  go_wp2_with fail
  simp only [Exit.noGoto]
  refine bodyPost_ret (v := .tuple #[.agg #[.slice none 0 0], .slice none 0 0, .slice none 0 0, .int .i64 1]) (by simp [results, Try.results5, go_sem, k4]) rfl (plays_err _ _ _ ?_)
  exact (HBa.out.trans (hb2.mono (by simp; omega))).setCell (by simp) _

/-- What is asked of both programs' arguments. -/
structure Args (w : World) (jsv pv : Value) (js : List (List (Int × Int))) (ps : List Int) : Prop where
  jobs : IsJobs w jsv js
  picks : IsInts w pv ps
  few : js.length ≤ 1000
  cnt : cnt js js.length ≤ 1000
  some : ps.length ≤ 1000

theorem play_any (n : Int) (jsv pv : Value) (js : List (List (Int × Int))) (ord : Bool) (ps : List Int) (w : World) (h : Args w jsv pv js ps) :
    Calls Try.prog 5 #[.int .i64 n, jsv, .bool ord, pv] w (Plays w (playM n js ord ps)) := by
  obtain ⟨hj, hp, hl, hc, hs⟩ := h
  have hj0 := hj
  obtain ⟨aj, c, rfl, hj⟩ := hj
  have hp0 := hp
  obtain ⟨ao, c2, rfl, _⟩ := hp
  by_cases hn : n < 0 ∨ 65 < n
  · have hm : playM n js ord ps = ⟨[], [], [], 1⟩ := by unfold playM; simp [newM, hn]
    rw [hm]
    exact play_bad n aj c ao c2 js.length ps.length ord w hn
  · obtain ⟨k, rfl⟩ := Int.eq_ofNat_of_zero_le (show 0 ≤ n by omega)
    have hnew : newM (k : Int) = (List.replicate k (-1), 0) := by simp [newM]; omega
    by_cases hjl : 64 < js.length
    · have hm : playM k js ord ps = ⟨[], [], [], 2⟩ := by unfold playM; rw [hnew, if_neg (by simp), if_pos (.inl hjl)]
      rw [hm]
      exact play_long k aj c ao c2 js.length ps.length ord w (by omega) hjl
    · cases hr : rightM k js with
      | false =>
        have hm : playM k js ord ps = ⟨[], [], [], 1⟩ := by unfold playM; rw [hnew, if_neg (by simp), if_neg (by omega), if_pos hr]
        rw [hm]
        exact play_wrong k aj c ao c2 js ps.length ord w (by omega) (by omega) hs hj0 hc hr
      | true =>
        have hex : ∃ jv : Nat → Value, ∀ i, i < js.length → IsJob w (jv i) (jobAt js i) ∧ ∃ b off, aj = some ⟨b, off, none⟩ ∧ w.cell? ⟨b, off + i, none⟩ = some (jv i) := by
          rcases hj with h0 | ⟨b, off, e, hj⟩
          · exact ⟨fun _ => undef, fun i hi => by omega⟩
          · refine ⟨fun i => (w.cell? ⟨b, off + i, none⟩).getD undef, fun i hi => ?_⟩
            obtain ⟨jv, h1, h2⟩ := hj i hi
            simp only [h1, Option.getD_some]
            exact ⟨h2, b, off, e, h1⟩
        obtain ⟨jv, hjv⟩ := hex
        exact play_main k aj c ao c2 js ord ps w (by omega) (by omega) hs jv (fun i hi => (hjv i hi).1) (fun i hi => (hjv i hi).2) hr hc hp0
end Go.Proofs.Ytnammleaglmjaaa
