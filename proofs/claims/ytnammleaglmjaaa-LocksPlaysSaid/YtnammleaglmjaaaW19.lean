/- The law's small check of the program: it answers yes. No condition. -/
import Derived.Test.YtnammleaglmjaaaW14
import Derived.Test.YtnammleaglmjaaaW8
namespace Go.Proofs.Ytnammleaglmjaaa
open Go.RowKit

def jsA : List (List (Int × Int)) := [[(0, 1)], [(1, 0)]]
def pkA : List Int := [0, 1, 0, 1]
def wsA : List (List Int × Int) := [([0, 1], -1), ([], 0)]
def wsB : List (List Int × Int) := [([0], 1), ([1], 0)]
theorem playA : playM 2 jsA true pkA = ⟨[0, 0], wsA, [], 0⟩ := by rfl
theorem playB : playM 2 jsA false pkA = ⟨[0, 1], wsB, [], 0⟩ := by rfl
theorem stuckA : stuckM wsA = [] := by rfl
theorem stuckB : stuckM wsB = [0, 1] := by rfl
theorem goodA : Good wsA := ⟨by decide, by decide, by decide, by decide, by decide, by decide⟩
theorem goodB : Good wsB := ⟨by decide, by decide, by decide, by decide, by decide, by decide⟩


theorem WCells.grow {w w' : World} {b off : Nat} {ws : List (List Int × Int)} (h : WCells w b off ws) (hb : Below w.heap.size w w') : WCells w' b off ws := fun i hi => by
  obtain ⟨hv, h1, h2, h3⟩ := h i hi
  exact ⟨hv, (hb.cell (p := ⟨b, off + i * 2, none⟩) (World.block_lt_of_cell? w _ h1)).trans h1, h2.grow hb, (hb.cell (p := ⟨b, off + i * 2 + 1, none⟩) (World.block_lt_of_cell? w _ h3)).trans h3⟩

/-- Plays of which the waiters are two. -/
theorem plays_two {jsv pv : Value} {js : List (List (Int × Int))} {ps : List Int} {ord : Bool} {w : World} {a b : List Int × Int} {own dn : List Int} (h : Args w jsv pv js ps) (he : playM 2 js ord ps = ⟨own, [a, b], dn, 0⟩) :
    Calls Try.prog 5 #[.int .i64 2, jsv, .bool ord, pv] w fun e w' => ∃ lo lc g off c dd dc, e = .returned (.tuple #[.agg #[.slice lo own.length lc], .slice (some ⟨g, off, none⟩) 2 c, .slice dd dn.length dc, .int .i64 0]) ∧
      IsInts w' (.slice lo own.length lc) own ∧ WCells w' g off [a, b] ∧ Below w.heap.size w w' := by
  refine (play_any 2 jsv pv js ord ps w h).mono ?_
  rintro e w1 ⟨lv, wv, dv, rfl, hl, hws, hd, hb⟩
  rw [he] at hl hws hd ⊢
  obtain ⟨lo, lc, rfl, _⟩ := id hl
  obtain ⟨dd, dc, rfl, _⟩ := id hd
  obtain ⟨ao, c, rfl, h0 | ⟨g, off, rfl, hc⟩⟩ := hws
  · simp at h0
  · exact ⟨lo, lc, g, off, c, dd, dc, rfl, hl, hc, hb⟩

theorem argsA {w : World} {g1 g2 g3 g4 c1 c2 c3 c4 : Nat} (h1 : w.cell? ⟨g1, 0, none⟩ = some (.int .i64 0)) (h2 : w.cell? ⟨g1, 1, none⟩ = some (.int .i64 1)) (h3 : w.cell? ⟨g2, 0, none⟩ = some (.int .i64 1)) (h4 : w.cell? ⟨g2, 1, none⟩ = some (.int .i64 0))
    (h5 : w.cell? ⟨g3, 0, none⟩ = some (.slice (some ⟨g1, 0, none⟩) 1 c1)) (h6 : w.cell? ⟨g3, 1, none⟩ = some (.slice (some ⟨g2, 0, none⟩) 1 c2))
    (k1 : w.cell? ⟨g4, 0, none⟩ = some (.int .i64 0)) (k2 : w.cell? ⟨g4, 1, none⟩ = some (.int .i64 1)) (k3 : w.cell? ⟨g4, 2, none⟩ = some (.int .i64 0)) (k4 : w.cell? ⟨g4, 3, none⟩ = some (.int .i64 1)) :
    Args w (.slice (some ⟨g3, 0, none⟩) 2 c3) (.slice (some ⟨g4, 0, none⟩) 4 c4) jsA pkA := by
  refine ⟨⟨_, c3, rfl, .inr ⟨g3, 0, rfl, ?_⟩⟩, ⟨_, c4, rfl, .inr ⟨g4, 0, rfl, ?_⟩⟩, by decide, by decide, by decide⟩
  · intro i hi
    have hi : i < 2 := hi
    obtain rfl | rfl : i = 0 ∨ i = 1 := by omega
    · refine ⟨_, h5, .inr ⟨_, c1, rfl, .inr ⟨g1, 0, rfl, ?_⟩⟩⟩
      intro j hj
      have hj : j < 1 := hj
      obtain rfl : j = 0 := by omega
      exact ⟨h1, h2⟩
    · refine ⟨_, h6, .inr ⟨_, c2, rfl, .inr ⟨g2, 0, rfl, ?_⟩⟩⟩
      intro j hj
      have hj : j < 1 := hj
      obtain rfl : j = 0 := by omega
      exact ⟨h3, h4⟩
  · intro i hi
    have hi : i < 4 := hi
    obtain rfl | rfl | rfl | rfl : i = 0 ∨ i = 1 ∨ i = 2 ∨ i = 3 := by omega
    · exact k1
    · exact k2
    · exact k3
    · exact k4

set_option maxHeartbeats 3200000 in
theorem awake_any (w : World) : Calls Try.prog 4 #[] w fun e w' => e = .returned (.bool true) ∧ Below w.heap.size w w' := by
  go_enter Try.func4, Try.ntmps4
  go_wp2_with fail
  obtain ⟨W, eW⟩ : ∃ W, W = ((((w.alloc (.cells #[.int .i64 0, .int .i64 1] 37)).alloc (.cells #[.int .i64 1, .int .i64 0] 37)).alloc (.cells #[.slice (some ⟨w.heap.size, 0, none⟩) 1 1, .slice (some ⟨w.heap.size + 1, 0, none⟩) 1 1] 26)).alloc (.cells #[.int .i64 0, .int .i64 1, .int .i64 0, .int .i64 1] 3)) := ⟨_, rfl⟩
  rw [← eW]
  have hW : W.heap.size = w.heap.size + 4 := by rw [eW]; simp
  have hbW : Below w.heap.size w W := by
    rw [eW]
    exact ((((Below.refl _ _).alloc (Nat.le_refl _) _).alloc (by simp) _).alloc (by simp; omega) _).alloc (by simp; omega) _
  have j1 : W.cell? ⟨w.heap.size, 0, none⟩ = some (.int .i64 0) := by rw [eW]; exact alloc_cell (alloc_cell (alloc_cell (new_cell rfl rfl) _) _) _
  have j2 : W.cell? ⟨w.heap.size, 1, none⟩ = some (.int .i64 1) := by rw [eW]; exact alloc_cell (alloc_cell (alloc_cell (new_cell rfl rfl) _) _) _
  have j3 : W.cell? ⟨w.heap.size + 1, 0, none⟩ = some (.int .i64 1) := by rw [eW]; exact alloc_cell (alloc_cell (new_cell (by simp) rfl) _) _
  have j4 : W.cell? ⟨w.heap.size + 1, 1, none⟩ = some (.int .i64 0) := by rw [eW]; exact alloc_cell (alloc_cell (new_cell (by simp) rfl) _) _
  have j5 : W.cell? ⟨w.heap.size + 1 + 1, 0, none⟩ = some (.slice (some ⟨w.heap.size, 0, none⟩) 1 1) := by rw [eW]; exact alloc_cell (new_cell (by simp) rfl) _
  have j6 : W.cell? ⟨w.heap.size + 1 + 1, 1, none⟩ = some (.slice (some ⟨w.heap.size + 1, 0, none⟩) 1 1) := by rw [eW]; exact alloc_cell (new_cell (by simp) rfl) _
  have q1 : W.cell? ⟨w.heap.size + 1 + 1 + 1, 0, none⟩ = some (.int .i64 0) := by rw [eW]; exact new_cell (by simp) rfl
  have q2 : W.cell? ⟨w.heap.size + 1 + 1 + 1, 1, none⟩ = some (.int .i64 1) := by rw [eW]; exact new_cell (by simp) rfl
  have q3 : W.cell? ⟨w.heap.size + 1 + 1 + 1, 2, none⟩ = some (.int .i64 0) := by rw [eW]; exact new_cell (by simp) rfl
  have q4 : W.cell? ⟨w.heap.size + 1 + 1 + 1, 3, none⟩ = some (.int .i64 1) := by rw [eW]; exact new_cell (by simp) rfl
  refine (plays_two (argsA (g1 := w.heap.size) (g2 := w.heap.size + 1) (c1 := 1) (c2 := 1) j1 j2 j3 j4 j5 j6 q1 q2 q3 q4) playA).mono ?_
  rintro e w1 ⟨lo1, lc1, g1, o1, c1, dd1, dc1, rfl, hl1, hw1, hb1⟩
  clear q1 q2 q3 q4
  clear eW
  have Hl1 := Lib.hid hl1
  have Hw1 := Lib.hid hw1
  have hs1 := hb1.size
  clear hl1 hw1
  have hbx : Below W.heap.size W ((w1.alloc (.cells #[.slice lo1 2 lc1] 29)).alloc (.cells #[.int .i64 0, .int .i64 1, .int .i64 0, .int .i64 1] 3)) := (hb1.alloc hs1 _).alloc (by simp; omega) _
  go_wp2_with fail
  refine (plays_two (argsA (g1 := w.heap.size) (g2 := w.heap.size + 1) (c1 := 1) (c2 := 1) ((hbx.cell (p := ⟨w.heap.size, 0, none⟩) (by simp only; omega)).trans j1) ((hbx.cell (p := ⟨w.heap.size, 1, none⟩) (by simp only; omega)).trans j2) ((hbx.cell (p := ⟨w.heap.size + 1, 0, none⟩) (by simp only; omega)).trans j3) ((hbx.cell (p := ⟨w.heap.size + 1, 1, none⟩) (by simp only; omega)).trans j4)
    ((hbx.cell (p := ⟨w.heap.size + 1 + 1, 0, none⟩) (by simp only; omega)).trans j5) ((hbx.cell (p := ⟨w.heap.size + 1 + 1, 1, none⟩) (by simp only; omega)).trans j6) (new_cell (by simp) rfl) (new_cell (by simp) rfl) (new_cell (by simp) rfl) (new_cell (by simp) rfl)) playB).mono ?_
  rintro e w2 ⟨lo2, lc2, g2, o2, c2, dd2, dc2, rfl, hl2, hw2, hb2⟩
  have Hl2 := Lib.hid hl2
  have Hw2 := Lib.hid hw2
  have hs2 := hb2.size
  simp only [World.size_alloc] at hb2 hs2
  clear hl2 hw2 j1 j2 j3 j4 j5 j6 hbx
  have hb12 : Below w1.heap.size w1 w2 := (((Below.refl _ _).alloc (Nat.le_refl _) (.cells #[.slice lo1 2 lc1] 29)).alloc (by simp) (.cells #[.int .i64 0, .int .i64 1, .int .i64 0, .int .i64 1] 3)).trans (hb2.mono (by omega))
  have hl1 : w2.cell? ⟨w1.heap.size, 0, none⟩ = some (.slice lo1 2 lc1) := (hb2.cell (p := ⟨w1.heap.size, 0, none⟩) (by simp only; omega)).trans (alloc_cell (new_cell rfl rfl) _)
  go_wp2_with fail
  have hbx : Below w2.heap.size w2 (w2.alloc (.cells #[.slice lo2 2 lc2] 29)) := (Below.refl _ _).alloc (Nat.le_refl _) _
  refine (stuck_any _ _ _ wsA _ ((Hw1.out.grow hb12).grow hbx) (by decide) goodA).mono ?_
  rintro e w3 ⟨v3, rfl, hi3, hb3⟩
  rw [stuckA] at hi3
  obtain ⟨ao3, cp3, rfl, _⟩ := id hi3
  have Hi3 := Lib.hid hi3
  clear hi3
  have hs3 := hb3.size
  simp only [World.size_alloc] at hs3 hb3
  have hl1' := (hb3.cell (p := ⟨w1.heap.size, 0, none⟩) (by simp only; omega)).trans (alloc_cell hl1 (.cells #[.slice lo2 2 lc2] 29))
  have hb23 : Below w2.heap.size w2 w3 := hbx.trans (hb3.mono (by omega))
  clear hl1
  go_wp2_with fail
  refine (stuck_any _ _ _ wsB _ (Hw2.out.grow hb23) (by decide) goodB).mono ?_
  rintro e w4 ⟨v4, rfl, hi4, hb4⟩
  rw [stuckB] at hi4
  obtain ⟨ao4, cp4, rfl, _⟩ := id hi4
  have Hi4 := Lib.hid hi4
  clear hi4
  have hs4 := hb4.size
  have hl1 := (hb4.cell (p := ⟨w1.heap.size, 0, none⟩) (by simp only; omega)).trans hl1'
  have hb14 : Below w1.heap.size w1 w4 := hb12.trans ((hb23.trans (hb4.mono (by omega))).mono (by omega))
  clear hl1'
  have hwA := (Hw1.out.grow hb14) 0 (by decide)
  have hwB := (Hw1.out.grow hb14) 1 (by decide)
  obtain ⟨_, _, _, hn0⟩ := hwA
  obtain ⟨_, _, _, hn1⟩ := hwB
  simp only [wth, wsA, List.getD, List.getElem?_cons_zero, List.getElem?_cons_succ, Option.getD_some, Nat.zero_mul, Nat.one_mul, Nat.add_zero] at hn0 hn1
  go_wp2_with (go_at_call 10; refine (pair_any _ _ _).mono ?_; rintro e w' ⟨rfl, rfl⟩)
  have hn40 : Below w4.heap.size w4 (w4.alloc (.cells #[.int .i64 0, .int .i64 0] 3)) := (Below.refl _ _).alloc (Nat.le_refl _) _
  have hn0' := (hn40.cell (p := ⟨g1, o1 + 1, none⟩) (World.block_lt_of_cell? w4 _ hn0)).trans hn0
  have hn1' := (hn40.cell (p := ⟨g1, o1 + 2 + 1, none⟩) (World.block_lt_of_cell? w4 _ hn1)).trans hn1
  refine (ints_any _ _ [0, 0] [0, 0] _ ((Hl1.out.grow hb14).grow hn40) (ints_two (c := 2) (new_cell rfl rfl) (new_cell rfl rfl)) (by decide)).mono ?_
  rintro e w5 ⟨rfl, n5, rfl⟩
  rw [decide_eq_true rfl]
  clear hn0 hn1 hl1
  have hi12 := (Hi4.out.grow hn40)
  have Hi12 := Lib.hid hi12
  clear hi12
  go_wp2_with fail
  refine (ints_any _ _ [0, 1] [0, 1] _ ((Hi12.out.drewN n5).alloc _) (ints_two (c := 2) (new_cell (by simp) rfl) (new_cell (by simp) rfl)) (by decide)).mono ?_
  rintro e w6 ⟨rfl, n6, rfl⟩
  rw [decide_eq_true rfl]
  go_wp2_with fail
  go_ret
  refine ⟨rfl, ?_⟩
  have h14 := hb14.size
  have h04 : Below w.heap.size w w4 := (hbW.trans (hb1.mono (by omega))).trans (hb14.mono (by omega))
  exact ((((h04.alloc (by omega) _).trans (drewN_below _ _ _)).alloc (show w.heap.size ≤ (w4.alloc _).heap.size by simp; omega) _).trans (drewN_below _ _ _))
end Go.Proofs.Ytnammleaglmjaaa
