/- A section's locks, in the order in which they are taken, by the program and by the reference. No condition. -/
import Derived.Test.YtnammleaglmjaaaW2
namespace Go.Proofs.Ytnammleaglmjaaa
open Go.RowKit

/-- The locks of a section of two. -/
def secM (a b : Int) (ordered : Bool) : List Int :=
  if a = b then [a] else if ordered then [min a b, max a b] else [a, b]

/-- What is said of both. -/
def Makes (w : World) (xs : List Int) (e : Ending) (w' : World) : Prop := ∃ ao c, e = .returned (.slice ao xs.length c) ∧ IsInts w' (.slice ao xs.length c) xs ∧ xs.length ≤ c ∧ From w.heap.size (.slice ao xs.length c) ∧ Below w.heap.size w w'

theorem ints_one {w : World} {g : Nat} {c : Nat} {a : Int} (h : w.cell? ⟨g, 0, none⟩ = some (.int .i64 a)) : IsInts w (.slice (some ⟨g, 0, none⟩) 1 c) [a] :=
  ⟨_, c, rfl, .inr ⟨g, 0, rfl, fun i hi => by obtain rfl : i = 0 := by simp at hi; omega
                                              simpa [nth] using h⟩⟩

theorem ints_two {w : World} {g : Nat} {c : Nat} {a b : Int} (h : w.cell? ⟨g, 0, none⟩ = some (.int .i64 a)) (h1 : w.cell? ⟨g, 1, none⟩ = some (.int .i64 b)) : IsInts w (.slice (some ⟨g, 0, none⟩) 2 c) [a, b] :=
  ⟨_, c, rfl, .inr ⟨g, 0, rfl, fun i hi => by
    rw [List.length_cons, List.length_cons, List.length_nil] at hi
    obtain rfl | rfl : i = 0 ∨ i = 1 := by omega
    · simpa [nth] using h
    · simpa [nth] using h1⟩⟩

theorem rsec_any (a b : Int) (ordered : Bool) (w : World) : Calls Try.prog 18 #[.agg #[.int .i64 a, .int .i64 b], .bool ordered] w (Makes w (secM a b ordered)) := by
  by_cases he : a = b
  · have hm : secM a b ordered = [a] := by simp [secM, he]
    rw [hm]
    subst he
    clear hm
    go_enter Try.func18, Try.ntmps18
    go_wp2_with fail
    go_ret
    refine ⟨_, _, rfl, ints_one (by simp), by simp, fun k hk => by simp [Value.ownBlock] at hk; omega, ((Below.refl _ _).alloc (Nat.le_refl _) _).alloc (by simp) _⟩
  · have hb : (a == b) = false := by simpa using he
    cases ordered with
    | true =>
      have hm : secM a b true = [min a b, max a b] := by simp [secM, he]
      rw [hm]
      clear he hm
      go_enter Try.func18, Try.ntmps18
      go_wp2_with (go_at_call 17; refine (rpair_any _ _ _).mono ?_; rintro e w' ⟨rfl, rfl⟩)
      go_ret
      refine ⟨_, _, rfl, ints_two (by simp) (by simp), by simp, fun k hk => by simp [Value.ownBlock] at hk; omega, ((Below.refl _ _).alloc (Nat.le_refl _) _).alloc (by simp) _⟩
    | false =>
      have hm : secM a b false = [a, b] := by simp [secM, he]
      rw [hm]
      clear he hm
      go_enter Try.func18, Try.ntmps18
      go_wp2_with (go_at_call 17; refine (rpair_any _ _ _).mono ?_; rintro e w' ⟨rfl, rfl⟩)
      go_ret
      refine ⟨_, _, rfl, ints_two (by simp) (by simp), by simp, fun k hk => by simp [Value.ownBlock] at hk; omega, ((Below.refl _ _).alloc (Nat.le_refl _) _).alloc (by simp) _⟩

theorem drewN_below (B : Nat) (w : World) (n : Nat) : Below B w (w.drewN n) := ⟨rfl, rfl, rfl, Nat.le_refl _, fun _ _ => rfl⟩

theorem new_cell {W : World} {vs : Array Value} {T : TypeId} {g i : Nat} {v : Value} (hg : g = W.heap.size) (h : vs[i]? = some v) : (W.alloc (.cells vs T)).cell? ⟨g, i, none⟩ = some v := by
  subst hg
  rw [cell_of_row _ _ i vs T (0, 0) (heap_alloc_new W _)]; exact h

theorem new_frozen {W : World} {vs : Array Value} {T : TypeId} {g i : Nat} (hg : g = W.heap.size) : (W.alloc (.cells vs T)).frozen? ⟨g, i, none⟩ = false := by
  subst hg
  have h := heap_alloc_new W (.cells vs T)
  unfold World.frozen?
  rw [h]
  simp

theorem compact_pair (a b : Int) : Lib.compact [a, b] = if a = b then [a] else [a, b] := by
  by_cases e : a = b
  · subst e
    simp [Lib.compact, Lib.compactUpTo, Lib.keeps, List.range_succ]
  · simp [Lib.compact, Lib.compactUpTo, Lib.keeps, List.range_succ, e, Ne.symm e]

/-- Of two, what is left. -/
def pairL (a b : Int) : List Int := if a = b then [a] else [a, b]
theorem pairL_len (a b : Int) : (pairL a b).length ≤ 2 := by unfold pairL; split <;> simp
theorem pairL_ord (x y : Int) : pairL (min x y) (max x y) = secM x y true := by
  by_cases e : x = y
  · subst e; simp [pairL, secM]
  · unfold pairL; rw [if_neg (by omega)]; simp [secM, e]
theorem pairL_plain (x y : Int) : pairL x y = secM x y false := by
  by_cases e : x = y
  · simp [pairL, secM, e]
  · simp [pairL, secM, e]

theorem compact_two (a b : Int) (g : Nat) (w : World) (h : w.cell? ⟨g, 0, none⟩ = some (.int .i64 a)) (h1 : w.cell? ⟨g, 1, none⟩ = some (.int .i64 b)) (hf : w.frozen? ⟨g, 0, none⟩ = false) (hf1 : w.frozen? ⟨g, 1, none⟩ = false) :
    Calls Try.prog 24 #[.slice (some ⟨g, 0, none⟩) 2 2] w fun e w' => e = .returned (.slice (some ⟨g, 0, none⟩) (pairL a b).length 2) ∧ IsInts w' (.slice (some ⟨g, 0, none⟩) (pairL a b).length 2) (pairL a b) ∧ Below g w w' := by
  refine (Try.slices_Compact_int_cells g 0 2 2 [a, b] w (by simp) (by omega) (by omega) ?_ ?_).mono ?_
  · intro j hj
    rw [List.length_cons, List.length_cons, List.length_nil] at hj
    obtain rfl | rfl : j = 0 ∨ j = 1 := by omega
    · simpa using h
    · simpa using h1
  · intro j hj
    obtain rfl | rfl : j = 0 ∨ j = 1 := by omega
    · simpa using hf
    · simpa using hf1
  · rintro e w' ⟨he, q, rfl⟩
    rw [show ([a, b] : List Int).take 2 = [a, b] from rfl, compact_pair] at he ⊢
    unfold pairL
    have hc0 : ((w.drewN q).setCell ⟨g, 0, none⟩ (.int .i64 a)).cell? ⟨g, 0, none⟩ = some (.int .i64 a) := World.cell?_setCell_same _ _ _ (u := .int .i64 a) (by simpa using h)
    by_cases e : a = b
    · subst e
      rw [if_pos rfl] at he ⊢
      refine ⟨he, ints_one ?_, ?_⟩
      · show ((((w.drewN q).setCell ⟨g, 0, none⟩ (.int .i64 a)).setCell ⟨g, 0 + 1, none⟩ (.int .i64 0)).cell? _) = _
        rw [World.cell?_setCell_other _ _ _ _ (by simp)]; exact hc0
      · exact Below.setCell (p := ⟨g, 0 + 1, none⟩) (Below.setCell (p := ⟨g, 0, none⟩) (drewN_below g w q) (Nat.le_refl _) _) (Nat.le_refl _) _
    · rw [if_neg e] at he ⊢
      refine ⟨he, ints_two ?_ ?_, ?_⟩
      · show ((((w.drewN q).setCell ⟨g, 0, none⟩ (.int .i64 a)).setCell ⟨g, 0 + 1, none⟩ (.int .i64 b)).cell? _) = _
        rw [World.cell?_setCell_other _ _ _ _ (by simp)]; exact hc0
      · show ((((w.drewN q).setCell ⟨g, 0, none⟩ (.int .i64 a)).setCell ⟨g, 0 + 1, none⟩ (.int .i64 b)).cell? _) = _
        refine World.cell?_setCell_same _ _ _ (u := .int .i64 b) ?_
        rw [World.cell?_setCell_other _ _ _ _ (by simp)]
        simpa using h1
      · exact Below.setCell (p := ⟨g, 0 + 1, none⟩) (Below.setCell (p := ⟨g, 0, none⟩) (drewN_below g w q) (Nat.le_refl _) _) (Nat.le_refl _) _

/-- The cells of sections, from a place on. -/
def JCells (w : World) (b off : Nat) (l : List (Int × Int)) : Prop := ∀ i, i < l.length →
    w.cell? ⟨b, off + i * 2, none⟩ = some (.int .i64 (l.getD i (0, 0)).1) ∧ w.cell? ⟨b, off + i * 2 + 1, none⟩ = some (.int .i64 (l.getD i (0, 0)).2)

/-- A job's sections lie in a slice value. -/
def IsJob (w : World) (v : Value) (l : List (Int × Int)) : Prop :=
  (v = .slice none 0 0 ∧ l = []) ∨ ∃ a cap, v = .slice (some a) l.length cap ∧ (l.length = 0 ∨ ∃ b off, a = ⟨b, off, none⟩ ∧ JCells w b off l)

theorem IsJob.form {w : World} {v : Value} {l : List (Int × Int)} (h : IsJob w v l) : ∃ ao cap, v = .slice ao l.length cap ∧ (l.length = 0 ∨ ∃ b off, ao = some ⟨b, off, none⟩ ∧ JCells w b off l) := by
  rcases h with ⟨rfl, rfl⟩ | ⟨a, cap, rfl, h | ⟨b, off, rfl, h⟩⟩
  · exact ⟨none, 0, rfl, .inl rfl⟩
  · exact ⟨_, cap, rfl, .inl h⟩
  · exact ⟨_, cap, rfl, .inr ⟨b, off, rfl, h⟩⟩

theorem sec_done (b o : Nat) (jv : Value) (l : List (Int × Int)) (ordered : Bool) (w : World) (hj : IsJob w jv l) (h0 : w.cell? ⟨b, o, none⟩ = some jv) (h1 : w.cell? ⟨b, o + 1, none⟩ = some (.int .i64 (l.length : Int))) :
    Calls Try.prog 13 #[.pointer (some ⟨b, o, none⟩), .bool ordered] w fun e w' => e = .returned (.slice none 0 0) ∧ ∃ n, w' = w.drewN n := by
  obtain ⟨ao, cap, rfl, _⟩ := hj.form
  clear hj
  have he : ((l.length : Int) == (l.length : Int)) = true := by simp
  go_enter Try.func13, Try.ntmps13
  go_wp2_with fail
  go_quiet (fail)
  go_wp2_with fail
  go_ret
  exact ⟨rfl, _, rfl⟩

set_option maxHeartbeats 800000 in
theorem sec_any (b o k : Nat) (jv : Value) (l : List (Int × Int)) (ordered : Bool) (w : World) (hj : IsJob w jv l) (h0 : w.cell? ⟨b, o, none⟩ = some jv) (h1 : w.cell? ⟨b, o + 1, none⟩ = some (.int .i64 (k : Int))) (hk : k < l.length) :
    Calls Try.prog 13 #[.pointer (some ⟨b, o, none⟩), .bool ordered] w (Makes w (secM (l.getD k (0, 0)).1 (l.getD k (0, 0)).2 ordered)) := by
  obtain ⟨ao, cap, rfl, hz | ⟨jb, joff, rfl, hc⟩⟩ := hj.form
  · omega
  obtain ⟨hx, hy⟩ := hc k hk
  clear hc hj
  obtain ⟨x, ex⟩ : ∃ x, x = (l.getD k (0, 0)).1 := ⟨_, rfl⟩
  obtain ⟨y, ey⟩ : ∃ y, y = (l.getD k (0, 0)).2 := ⟨_, rfl⟩
  rw [← ex] at hx
  rw [← ey] at hy
  rw [← ex, ← ey]
  clear ex ey
  have hk' : (k : Int) < l.length := by omega
  have hne : ((k : Int) == (l.length : Int)) = false := by simp; omega
  go_enter Try.func13, Try.ntmps13
  go_wp2_with fail
  go_quiet (fail)
  go_wp2_with fail
  go_quiet (fail)
  cases ordered with
  | true =>
    go_wp2_with (go_at_call 10; refine (pair_any _ _ _).mono ?_; rintro e w' ⟨rfl, rfl⟩)
    refine (compact_two (min x y) (max x y) _ _ (new_cell rfl rfl) (new_cell rfl rfl) (new_frozen rfl) (new_frozen rfl)).mono ?_
    rintro e w' ⟨rfl, hi, hb⟩
    rw [pairL_ord] at hi ⊢
    go_wp2_with fail
    go_ret
    refine ⟨_, _, rfl, hi, ?_, ?_, ?_⟩
    · rw [← pairL_ord]; exact pairL_len _ _
    · intro k hk; simp [Value.ownBlock] at hk; omega
    · exact ((drewN_below _ w _).alloc (Nat.le_refl _) _).trans hb
  | false =>
    go_wp2_with (go_at_call 10; refine (pair_any _ _ _).mono ?_; rintro e w' ⟨rfl, rfl⟩)
    refine (compact_two x y _ _ (new_cell rfl rfl) (new_cell rfl rfl) (new_frozen rfl) (new_frozen rfl)).mono ?_
    rintro e w' ⟨rfl, hi, hb⟩
    rw [pairL_plain] at hi ⊢
    go_wp2_with fail
    go_ret
    refine ⟨_, _, rfl, hi, ?_, ?_, ?_⟩
    · rw [← pairL_plain]; exact pairL_len _ _
    · intro k hk; simp [Value.ownBlock] at hk; omega
    · exact ((drewN_below _ w _).alloc (Nat.le_refl _) _).trans hb
end Go.Proofs.Ytnammleaglmjaaa
