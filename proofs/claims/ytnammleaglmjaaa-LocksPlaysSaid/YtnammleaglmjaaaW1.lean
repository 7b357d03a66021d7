/- The small functions on locks do what the plain words say. No condition. -/
import Derived.Test.YtnammleaglmjaaaV
import Derived.Test.YtnammleaglmjaaaRows
import Derived.Test.YtnammleaglmjaaaShelf
import Derived.BigQuiet
import Derived.Deep.QuietTactic
import Derived.Lib.Hide
namespace Go.Proofs.Ytnammleaglmjaaa
open Go.RowKit

/-- No such lock, or nobody. -/
def oddB (n : Nat) (lock who : Int) : Bool := decide (lock < 0) || decide ((n : Int) ≤ lock) || decide (who < 0)

theorem pair_any (a b : Int) (w : World) : Calls Try.prog 10 #[.int .i64 a, .int .i64 b] w fun e w' => e = .returned (.tuple #[.int .i64 (min a b), .int .i64 (max a b)]) ∧ w = w' := by
  go_enter Try.func10, Try.ntmps10
  go_wp2
  go_ret2
  exact ⟨rfl, rfl⟩

theorem rpair_any (a b : Int) (w : World) : Calls Try.prog 17 #[.int .i64 a, .int .i64 b] w fun e w' => e = .returned (.tuple #[.int .i64 (min a b), .int .i64 (max a b)]) ∧ w = w' := by
  by_cases h : a < b
  · go_enter Try.func17, Try.ntmps17
    go_wp2
    go_ret2
    exact ⟨by simp; omega, rfl⟩
  · go_enter Try.func17, Try.ntmps17
    go_wp2
    go_ret2
    exact ⟨by simp; omega, rfl⟩

theorem odd_any (ao : Option Addr) (n cap : Nat) (lock who : Int) (w : World) (hn : n ≤ 9223372036854775807) :
    Calls Try.prog 25 #[.agg #[.slice ao n cap], .int .i64 lock, .int .i64 who] w fun e w' => e = .returned (.bool (oddB n lock who)) ∧ Below w.heap.size w w' := by
  by_cases h1 : lock < 0
  · go_enter Try.func25, Try.ntmps25
    go_wp2
    go_ret
    exact ⟨by simp [oddB, h1], (Below.refl _ _).alloc (Nat.le_refl _) _⟩
  · by_cases h2 : (n : Int) ≤ lock
    · go_enter Try.func25, Try.ntmps25
      go_wp2
      go_ret
      exact ⟨by simp [oddB, h2], (Below.refl _ _).alloc (Nat.le_refl _) _⟩
    · by_cases h3 : who < 0
      · go_enter Try.func25, Try.ntmps25
        go_wp2
        go_ret
        exact ⟨by simp [oddB, h3], (Below.refl _ _).alloc (Nat.le_refl _) _⟩
      · go_enter Try.func25, Try.ntmps25
        go_wp2
        go_ret
        exact ⟨by simp [oddB, h1, h2, h3], (Below.refl _ _).alloc (Nat.le_refl _) _⟩

theorem map_take_nth (xs : List Int) : (xs.take xs.length).map (Value.int .i64) = xs.map (Value.int .i64) := by simp

theorem clone_any (v : Value) (xs : List Int) (w : World) (h : IsInts w v xs) (hn : xs.length * 8 ≤ 140737488355328) :
    Calls Try.prog 31 #[v] w fun e w' => ∃ v', e = .returned v' ∧ w'.ownsRow w.heap.size 3 1 v' xs.length (xs.map (Value.int .i64)) ∧ Below w.heap.size w w' := by
  obtain ⟨ao, cap, rfl, h⟩ := h
  cases ao with
  | none =>
    have h0 : xs.length = 0 := by rcases h with h | ⟨b, off, h, _⟩ <;> simp_all
    obtain rfl : xs = [] := List.eq_nil_of_length_eq_zero h0
    exact (Try.slices_Clone_int_nil _ cap w).mono fun e w' ⟨he, hw⟩ => ⟨_, he, by rw [hw]; exact World.ownsRow_nil _ _ _ _, by rw [hw]; exact Below.refl _ _⟩
  | some a =>
    rcases h with h0 | ⟨b, off, ha, hc⟩
    · obtain rfl : xs = [] := List.eq_nil_of_length_eq_zero h0
      exact (Try.slices_Clone_int_zero a cap w).mono fun e w' ⟨v', he, hr, _, hb⟩ => ⟨v', he, hr, hb⟩
    · obtain rfl : a = ⟨b, off, none⟩ := by simpa using ha
      exact (Try.slices_Clone_int b off xs.length cap xs w (Nat.le_refl _) hn (fun j hj => hc j hj)).mono fun e w' ⟨v', he, hr, _, hb⟩ => ⟨v', he, by rwa [map_take_nth] at hr, hb⟩

/-- A row of the call's own, from the head of a block on. -/
structure RowAt (w : World) (g cap : Nat) (cur : Array Value) (xs : List Int) : Prop where
  row : w.heap[g]? = some (.cells cur 3 (0, 0))
  room : xs.length ≤ cap
  size : cur.size = cap
  first : cur.toList.take xs.length = xs.map (Value.int .i64)

/-- .. of a list that is not empty: the row itself. -/
theorem clone_pos (v : Value) (xs : List Int) (w : World) (h : IsInts w v xs) (hn : xs.length * 8 ≤ 140737488355328) (hp : 0 < xs.length) :
    Calls Try.prog 31 #[v] w fun e w' => ∃ g cap cur, e = .returned (.slice (some ⟨g, 0, none⟩) xs.length cap) ∧ w.heap.size ≤ g ∧ RowAt w' g cap cur xs ∧ Below w.heap.size w w' := by
  refine (clone_any v xs w h hn).mono ?_
  rintro e w' ⟨v', he, ⟨_, ⟨rfl, h0⟩ | ⟨g, cap, cur, rfl, hb, hg, hnc, hcm, hcs, htake⟩⟩, hbel⟩
  · omega
  · exact ⟨g, cap, cur, he, hb, ⟨hg, hnc, by omega, by simpa using htake⟩, hbel⟩

theorem RowAt.get {w : World} {g cap i : Nat} {cur : Array Value} {xs : List Int} (h : RowAt w g cap cur xs) (hi : i < xs.length) : cur[i]? = some (.int .i64 (nth xs i)) := by
  have h1 := congrArg (·[i]?) h.first
  simp only [List.getElem?_take, hi, if_true, List.getElem?_map] at h1
  rw [← Array.getElem?_toList, h1]
  simp [nth, List.getD, hi]

theorem RowAt.set {w : World} {g cap k : Nat} {cur : Array Value} {xs : List Int} (x : Int) (h : RowAt w g cap cur xs) (hk : k < xs.length) :
    IsInts (w.setCell ⟨g, k, none⟩ (.int .i64 x)) (.slice (some ⟨g, 0, none⟩) xs.length cap) (xs.set k x) := by
  refine ⟨_, cap, by rw [List.length_set], .inr ⟨g, 0, rfl, fun i hi => ?_⟩⟩
  rw [List.length_set] at hi
  have hset : (w.setCell ⟨g, k, none⟩ (.int .i64 x)).heap[g]? = some (.cells (cur.setIfInBounds k (.int .i64 x)) 3 (0, 0)) := by
    simp [World.setCell, Array.getElem?_modify, h.row]
  rw [Nat.zero_add, cell_of_row _ g i _ 3 (0, 0) hset]
  have hr := h.room
  have hs := h.size
  by_cases e : k = i
  · subst e
    rw [Array.getElem?_setIfInBounds_self_of_lt (by omega)]
    simp [nth, List.getD, hk]
  · rw [Array.getElem?_setIfInBounds_ne e, h.get hi]
    simp [nth, List.getD, e]

theorem RowAt.cell {w : World} {g cap k : Nat} {cur : Array Value} {xs : List Int} (h : RowAt w g cap cur xs) (hk : k < xs.length) :
    w.cell? ⟨g, k, none⟩ = some (.int .i64 (nth xs k)) ∧ w.frozen? ⟨g, k, none⟩ = false := by
  refine ⟨?_, ?_⟩
  · rw [cell_of_row w g k cur 3 (0, 0) h.row]; exact h.get hk
  · simp [World.frozen?, h.row]

theorem alloc_cell {w : World} {a : Addr} {v : Value} (h : w.cell? a = some v) (o : Obj) : (w.alloc o).cell? a = some v :=
  (World.cell?_of_block (w := w) (Below.heap_alloc _ _ _ (World.block_lt_of_cell? w a h))).trans h

theorem IsInts.alloc {w : World} {v : Value} {xs : List Int} (h : IsInts w v xs) (o : Obj) : IsInts (w.alloc o) v xs := h.grow ((Below.refl _ _).alloc (Nat.le_refl _) _)

set_option maxHeartbeats 400000 in
theorem with_any (v : Value) (xs : List Int) (k : Nat) (who : Int) (w : World) (h : IsInts w v xs) (hn : xs.length * 8 ≤ 140737488355328) (hk : k < xs.length) :
    Calls Try.prog 26 #[.agg #[v], .int .i64 (k : Int), .int .i64 who] w fun e w' => ∃ v', e = .returned (.agg #[v']) ∧ IsInts w' v' (xs.set k who) ∧ From w.heap.size v' ∧ Below w.heap.size w w' := by
  have hk' : (k : Int) < xs.length := by omega
  go_enter Try.func26, Try.ntmps26
  go_wp2_with fail
  refine (clone_pos v xs _ ((h.alloc _).alloc _) hn (by omega)).mono ?_
  rintro e w1 ⟨g, cap, cur, rfl, hg, hrow, hb⟩
  have hc := (hrow.cell hk).1
  have hf := (hrow.cell hk).2
  simp only [World.size_alloc] at hg hb
  have hc2 : w1.cell? ⟨w.heap.size + 1, 0, none⟩ = some (.slice none 0 0) := (hb.cell (p := ⟨w.heap.size + 1, 0, none⟩) (by simp)).trans (by simp)
  have hf2 : w1.frozen? ⟨w.heap.size + 1, 0, none⟩ = false := (hb.frozen (p := ⟨w.heap.size + 1, 0, none⟩) (by simp)).trans (by simp)
  have hne : g ≠ w.heap.size + 1 := by omega
  go_wp2_with fail
  refine bodyPost_ret (v := .agg #[.slice (some ⟨g, 0, none⟩) xs.length cap]) (by simp [results, Try.results26, go_sem, hc2, hne]) rfl ⟨_, rfl, ?_, ?_, ?_⟩
  · exact (hrow.set who hk).fr ((Fr.refl (· = w.heap.size + 1) _).setCell (by simp) _) (fun k hk => by simp [Value.ownBlock] at hk; omega)
  · intro k hk; simp [Value.ownBlock] at hk; omega
  · exact ((((Below.refl _ _).alloc (Nat.le_refl _) _).alloc (by simp) _).trans (hb.mono (by omega))).setCell (by simp; omega) _ |>.setCell (by simp) _

theorem owns_pos {w : World} {B : Nat} {v : Value} {n : Nat} {xs : List Int} (h : w.ownsRow B 3 1 v n (xs.map (Value.int .i64))) (hp : 0 < n) :
    ∃ g cap cur, v = .slice (some ⟨g, 0, none⟩) xs.length cap ∧ B ≤ g ∧ RowAt w g cap cur xs := by
  have hl : xs.length = n := by simpa using h.1
  subst hl
  rcases h with ⟨_, ⟨h1, h0⟩ | ⟨g, cap, cur, h1, hb, hg, hnc, hcm, hcs, htake⟩⟩
  · omega
  · exact ⟨g, cap, cur, h1, hb, hg, by omega, by omega, by simpa using htake⟩

theorem Try.info3 : (Try.prog.info? 3).map (fun i => (i.zero, i.size, i.bytes)) = some (some (.int .i64 0), 1, 8) := by kernel_rfl

set_option maxHeartbeats 400000 in
theorem put_any (v : Value) (xs : List Int) (k : Nat) (who : Int) (w : World) (h : IsInts w v xs) (hn : xs.length * 8 ≤ 140737488355328) (hk : k < xs.length) :
    Calls Try.prog 27 #[.agg #[v], .int .i64 (k : Int), .int .i64 who] w fun e w' => ∃ v', e = .returned (.agg #[v']) ∧ IsInts w' v' (xs.set k who) ∧ From w.heap.size v' ∧ Below w.heap.size w w' := by
  have hk' : (k : Int) < xs.length := by omega
  obtain ⟨ao, cap0, rfl, h0 | ⟨b, off, rfl, hc0⟩⟩ := h
  · omega
  obtain ⟨i0, hi, hz0, hz1, hz2⟩ := info_parts Try.info3
  have hnews : ∀ (o1 o2 : Obj) j u, (xs.map (Value.int .i64))[j]? = some u → ((w.alloc o1).alloc o2).cell? ((⟨b, off, none⟩ : Addr).add j) = some u := by
    intro o1 o2 j u hj
    rw [List.getElem?_map] at hj
    have hjl : j < xs.length := by
      by_cases e : j < xs.length
      · exact e
      · simp [List.getElem?_eq_none (Nat.le_of_not_lt e)] at hj
    have h1 := hc0 j hjl
    have : (⟨b, off, none⟩ : Addr).add j = ⟨b, off + j, none⟩ := by unfold Addr.add; split <;> simp_all
    rw [this]
    have hu : u = .int .i64 (nth xs j) := by simp [hjl] at hj; rw [← hj, nth_lt]
    rw [hu]
    have hlt := World.block_lt_of_cell? w _ h1
    rw [World.cell?_of_block (Below.heap_alloc _ _ _ (by simp; exact Nat.lt_succ_of_lt hlt)), World.cell?_of_block (Below.heap_alloc _ _ _ hlt)]
    exact h1
  have HN := Lib.hid hnews
  clear hnews hc0
  go_enter Try.func27, Try.ntmps27
  go_wp2_with (at_builtin; refine wpList_append_own _ rfl (.const (.slice none 0 0)) (.tmp 9) 23 rfl (w.heap.size + 1 + 1) 3 i0 (.int .i64 0) 1 8 Try.underlying23 hi hz0 hz1 hz2 rfl (by decide) _ 0 [] rfl (World.ownsRow_nil _ _ _ _) ⟨b, off, none⟩ xs.length cap0 (xs.map (Value.int .i64)) rfl (by simp) (HN.out _ _) ?c1 ?c2 ?c3 ?c4 ?_)
  case c1 => intro u hu; simp at hu; obtain ⟨x, _, rfl⟩ := hu; rfl
  case c2 => unfold maxLen; omega
  case c3 => omega
  case c4 => simp
  intro v' w1 hown hgr hnil
  obtain ⟨g, cap, cur, rfl, hg, hrow⟩ := owns_pos hown (by omega)
  clear hown hnil HN hi hz0 hz1 hz2
  have hc := (hrow.cell hk).1
  have hf := (hrow.cell hk).2
  have hb : Below (w.heap.size + 1 + 1) ((w.alloc (.cells #[.slice (some ⟨b, off, none⟩) xs.length cap0] 29)).alloc (.cells #[.slice none 0 0] 29)) w1 :=
    (Below.refl _ _).grown hgr (by simp) (by simp [Value.ownBlock])
  clear hgr
  have hc2 : w1.cell? ⟨w.heap.size + 1, 0, none⟩ = some (.slice none 0 0) := (hb.cell (p := ⟨w.heap.size + 1, 0, none⟩) (by simp)).trans (by simp)
  have hf2 : w1.frozen? ⟨w.heap.size + 1, 0, none⟩ = false := (hb.frozen (p := ⟨w.heap.size + 1, 0, none⟩) (by simp)).trans (by simp)
  have hne : g ≠ w.heap.size + 1 := by omega
  go_wp2_with fail
  refine bodyPost_ret (v := .agg #[.slice (some ⟨g, 0, none⟩) xs.length cap]) (by simp [results, Try.results27, go_sem, hc2, hne]) rfl ⟨_, rfl, ?_, ?_, ?_⟩
  · exact (hrow.set who hk).fr ((Fr.refl (· = w.heap.size + 1) _).setCell (by simp) _) (fun k hk => by simp [Value.ownBlock] at hk; omega)
  · intro k hk; simp [Value.ownBlock] at hk; omega
  · exact ((((Below.refl _ _).alloc (Nat.le_refl _) _).alloc (by simp) _).trans (hb.mono (by omega))).setCell (by simp; omega) _ |>.setCell (by simp) _

/-- What a call to have a lock comes to: the locks, and the error. -/
def takeM (by_ : List Int) (lock who : Int) : List Int × Int :=
  if oddB by_.length lock who then ([], 1) else if nth by_ lock.toNat = who then ([], 4) else if 0 ≤ nth by_ lock.toNat then ([], 11) else (by_.set lock.toNat who, 0)

/-- .. and to give it back. -/
def giveM (by_ : List Int) (lock who : Int) : List Int × Int :=
  if oddB by_.length lock who then ([], 1) else if nth by_ lock.toNat ≠ who then ([], 4) else (by_.set lock.toNat (-1), 0)

/-- WHAT IS SAID OF BOTH: what comes back, in new memory. -/
def Gives (w : World) (r : List Int × Int) (e : Ending) (w' : World) : Prop :=
  ∃ v', e = .returned (.tuple #[.agg #[v'], .int .i64 r.2]) ∧ IsInts w' v' r.1 ∧ From w.heap.size v' ∧ Below w.heap.size w w'

theorem oddB_false {n : Nat} {lock who : Int} (h : oddB n lock who = false) : 0 ≤ lock ∧ lock < n ∧ 0 ≤ who := by
  simp [oddB] at h; omega

set_option maxHeartbeats 400000 in
theorem take_any (v : Value) (xs : List Int) (lock who : Int) (w : World) (h : IsInts w v xs) (hn : xs.length * 8 ≤ 140737488355328) :
    Calls Try.prog 14 #[.agg #[v], .int .i64 lock, .int .i64 who] w (Gives w (takeM xs lock who)) := by
  by_cases ho : oddB xs.length lock who = true
  · obtain ⟨ao, cap0, rfl, h⟩ := h
    go_enter Try.func14, Try.ntmps14
    go_wp2_with fail
    refine (odd_any _ _ _ _ _ _ (by omega)).mono ?_
    rintro e w1 ⟨rfl, hb⟩
    rw [ho]
    simp only [World.size_alloc] at hb
    have hc2 : w1.cell? ⟨w.heap.size + 1, 0, none⟩ = some (.slice none 0 0) := (hb.cell (p := ⟨w.heap.size + 1, 0, none⟩) (by simp)).trans (by simp)
    have hf2 : w1.frozen? ⟨w.heap.size + 1, 0, none⟩ = false := (hb.frozen (p := ⟨w.heap.size + 1, 0, none⟩) (by simp)).trans (by simp)
    go_wp2_with fail
    refine bodyPost_ret (v := .tuple #[.agg #[.slice none 0 0], .int .i64 1]) (by simp [results, Try.results14, go_sem, hc2]) rfl ⟨.slice none 0 0, by simp [takeM, ho], by simp [takeM, ho]; exact IsInts.nil _, From.nil _, ?_⟩
    exact ((((Below.refl _ _).alloc (Nat.le_refl _) _).alloc (by simp) _).trans (hb.mono (by omega))).setCell (by simp) _
  · have ho : oddB xs.length lock who = false := by simpa using ho
    obtain ⟨h1, h2, h3⟩ := oddB_false ho
    obtain ⟨k, rfl⟩ := Int.eq_ofNat_of_zero_le h1
    have hk : k < xs.length := by omega
    have hi := h
    obtain ⟨ao, cap0, rfl, h0 | ⟨b, off, rfl, hc0⟩⟩ := h
    · omega
    have hc := hc0 k hk
    have hbl := World.block_lt_of_cell? w _ hc
    simp only at hbl
    clear hc0
    have hft : takeM xs (k : Int) who = if nth xs k = who then ([], 4) else if 0 ≤ nth xs k then ([], 11) else (xs.set k who, 0) := by simp [takeM, ho]
    have Hf := Lib.hid hft
    clear hft
    by_cases hw : nth xs k = who
    · have hw' : (nth xs k == who) = true := by simpa using hw
      have Hw := Lib.hid hw
      clear hw
      go_enter Try.func14, Try.ntmps14
      go_wp2_with fail
      refine (odd_any _ _ _ _ _ _ (by omega)).mono ?_
      rintro e w1 ⟨rfl, hb⟩
      rw [ho]
      simp only [World.size_alloc] at hb
      have hc1 : w1.cell? ⟨w.heap.size, 0, none⟩ = some (.slice (some ⟨b, off, none⟩) xs.length cap0) := (hb.cell (p := ⟨w.heap.size, 0, none⟩) (by simp; omega)).trans (by simp)
      have hc2 : w1.cell? ⟨w.heap.size + 1, 0, none⟩ = some (.slice none 0 0) := (hb.cell (p := ⟨w.heap.size + 1, 0, none⟩) (by simp)).trans (by simp)
      have hf2 : w1.frozen? ⟨w.heap.size + 1, 0, none⟩ = false := (hb.frozen (p := ⟨w.heap.size + 1, 0, none⟩) (by simp)).trans (by simp)
      have hc3 : w1.cell? ⟨b, off + k, none⟩ = some (.int .i64 (nth xs k)) := (hb.cell (p := ⟨b, off + k, none⟩) (by simp; omega)).trans (alloc_cell (alloc_cell hc _) _)
      go_wp2_with fail
      rw [Hf.out, if_pos Hw.out]
      refine bodyPost_ret (v := .tuple #[.agg #[.slice none 0 0], .int .i64 4]) (by simp [results, Try.results14, go_sem, hc2]) rfl ⟨.slice none 0 0, rfl, IsInts.nil _, From.nil _, ?_⟩
      exact ((((Below.refl _ _).alloc (Nat.le_refl _) _).alloc (by simp) _).trans (hb.mono (by omega))).setCell (by simp) _
    · have hw' : (nth xs k == who) = false := by simpa using hw
      have Hw := Lib.hid hw
      clear hw
      by_cases hg : 0 ≤ nth xs k
      · go_enter Try.func14, Try.ntmps14
        go_wp2_with fail
        refine (odd_any _ _ _ _ _ _ (by omega)).mono ?_
        rintro e w1 ⟨rfl, hb⟩
        rw [ho]
        simp only [World.size_alloc] at hb
        have hc1 : w1.cell? ⟨w.heap.size, 0, none⟩ = some (.slice (some ⟨b, off, none⟩) xs.length cap0) := (hb.cell (p := ⟨w.heap.size, 0, none⟩) (by simp; omega)).trans (by simp)
        have hc2 : w1.cell? ⟨w.heap.size + 1, 0, none⟩ = some (.slice none 0 0) := (hb.cell (p := ⟨w.heap.size + 1, 0, none⟩) (by simp)).trans (by simp)
        have hf2 : w1.frozen? ⟨w.heap.size + 1, 0, none⟩ = false := (hb.frozen (p := ⟨w.heap.size + 1, 0, none⟩) (by simp)).trans (by simp)
        have hc3 : w1.cell? ⟨b, off + k, none⟩ = some (.int .i64 (nth xs k)) := (hb.cell (p := ⟨b, off + k, none⟩) (by simp; omega)).trans (alloc_cell (alloc_cell hc _) _)
        go_wp2_with fail
        rw [Hf.out, if_neg Hw.out, if_pos hg]
        refine bodyPost_ret (v := .tuple #[.agg #[.slice none 0 0], .int .i64 11]) (by simp [results, Try.results14, go_sem, hc2]) rfl ⟨.slice none 0 0, rfl, IsInts.nil _, From.nil _, ?_⟩
        exact ((((Below.refl _ _).alloc (Nat.le_refl _) _).alloc (by simp) _).trans (hb.mono (by omega))).setCell (by simp) _
      · go_enter Try.func14, Try.ntmps14
        go_wp2_with fail
        refine (odd_any _ _ _ _ _ _ (by omega)).mono ?_
        rintro e w1 ⟨rfl, hb⟩
        rw [ho]
        have hi1 := ((hi.alloc (.cells #[.slice (some ⟨b, off, none⟩) xs.length cap0] 29)).alloc (.cells #[.slice none 0 0] 29)).grow hb
        simp only [World.size_alloc] at hb
        have hc1 : w1.cell? ⟨w.heap.size, 0, none⟩ = some (.slice (some ⟨b, off, none⟩) xs.length cap0) := (hb.cell (p := ⟨w.heap.size, 0, none⟩) (by simp; omega)).trans (by simp)
        have hc2 : w1.cell? ⟨w.heap.size + 1, 0, none⟩ = some (.slice none 0 0) := (hb.cell (p := ⟨w.heap.size + 1, 0, none⟩) (by simp)).trans (by simp)
        have hf2 : w1.frozen? ⟨w.heap.size + 1, 0, none⟩ = false := (hb.frozen (p := ⟨w.heap.size + 1, 0, none⟩) (by simp)).trans (by simp)
        have hc3 : w1.cell? ⟨b, off + k, none⟩ = some (.int .i64 (nth xs k)) := (hb.cell (p := ⟨b, off + k, none⟩) (by simp; omega)).trans (alloc_cell (alloc_cell hc _) _)
        go_wp2_with fail
        refine (with_any _ xs k who _ hi1 hn hk).mono ?_
        rintro e w2 ⟨v', rfl, hv, hfr, hb2⟩
        obtain ⟨ao2, cap2, ev, _⟩ := id hv
        subst ev
        have hz1 := hb.size
        simp only [World.size_alloc] at hz1
        have hd2 : w2.cell? ⟨w.heap.size + 1, 0, none⟩ = some (.slice none 0 0) := (hb2.cell (p := ⟨w.heap.size + 1, 0, none⟩) (by simp; omega)).trans hc2
        have hg2 : w2.frozen? ⟨w.heap.size + 1, 0, none⟩ = false := (hb2.frozen (p := ⟨w.heap.size + 1, 0, none⟩) (by simp; omega)).trans hf2
        clear hc1 hc2 hf2 hc3
        go_wp2_with fail
        rw [Hf.out, if_neg Hw.out, if_neg (by omega)]
        refine bodyPost_ret (v := .tuple #[.agg #[.slice ao2 (xs.set k who).length cap2], .int .i64 0]) (by simp [results, Try.results14, go_sem, hd2]) rfl ⟨_, rfl, hv.fr ((Fr.refl (· = w.heap.size + 1) _).setCell (by simp) _) (fun k hk => by have := hfr k hk; omega), hfr.mono (by omega), ?_⟩
        exact (((((Below.refl _ _).alloc (Nat.le_refl _) _).alloc (by simp) _).trans (hb.mono (by omega))).trans (hb2.mono (by omega))).setCell (by simp) _

set_option maxHeartbeats 400000 in
theorem give_any (v : Value) (xs : List Int) (lock who : Int) (w : World) (h : IsInts w v xs) (hn : xs.length * 8 ≤ 140737488355328) :
    Calls Try.prog 15 #[.agg #[v], .int .i64 lock, .int .i64 who] w (Gives w (giveM xs lock who)) := by
  by_cases ho : oddB xs.length lock who = true
  · obtain ⟨ao, cap0, rfl, h⟩ := h
    go_enter Try.func15, Try.ntmps15
    go_wp2_with fail
    refine (odd_any _ _ _ _ _ _ (by omega)).mono ?_
    rintro e w1 ⟨rfl, hb⟩
    rw [ho]
    simp only [World.size_alloc] at hb
    have hc2 : w1.cell? ⟨w.heap.size + 1, 0, none⟩ = some (.slice none 0 0) := (hb.cell (p := ⟨w.heap.size + 1, 0, none⟩) (by simp)).trans (by simp)
    have hf2 : w1.frozen? ⟨w.heap.size + 1, 0, none⟩ = false := (hb.frozen (p := ⟨w.heap.size + 1, 0, none⟩) (by simp)).trans (by simp)
    go_wp2_with fail
    refine bodyPost_ret (v := .tuple #[.agg #[.slice none 0 0], .int .i64 1]) (by simp [results, Try.results15, go_sem, hc2]) rfl ⟨.slice none 0 0, by simp [giveM, ho], by simp [giveM, ho]; exact IsInts.nil _, From.nil _, ?_⟩
    exact ((((Below.refl _ _).alloc (Nat.le_refl _) _).alloc (by simp) _).trans (hb.mono (by omega))).setCell (by simp) _
  · have ho : oddB xs.length lock who = false := by simpa using ho
    obtain ⟨h1, h2, h3⟩ := oddB_false ho
    obtain ⟨k, rfl⟩ := Int.eq_ofNat_of_zero_le h1
    have hk : k < xs.length := by omega
    have hi := h
    obtain ⟨ao, cap0, rfl, h0 | ⟨b, off, rfl, hc0⟩⟩ := h
    · omega
    have hc := hc0 k hk
    have hbl := World.block_lt_of_cell? w _ hc
    simp only at hbl
    clear hc0
    have hft : giveM xs (k : Int) who = if nth xs k ≠ who then ([], 4) else (xs.set k (-1), 0) := by simp [giveM, ho]
    have Hf := Lib.hid hft
    clear hft
    by_cases hw : nth xs k = who
    · have hw' : (nth xs k != who) = false := by simpa using hw
      have Hw := Lib.hid hw
      clear hw
      go_enter Try.func15, Try.ntmps15
      go_wp2_with fail
      refine (odd_any _ _ _ _ _ _ (by omega)).mono ?_
      rintro e w1 ⟨rfl, hb⟩
      rw [ho]
      have hi1 := ((hi.alloc (.cells #[.slice (some ⟨b, off, none⟩) xs.length cap0] 29)).alloc (.cells #[.slice none 0 0] 29)).grow hb
      simp only [World.size_alloc] at hb
      have hc1 : w1.cell? ⟨w.heap.size, 0, none⟩ = some (.slice (some ⟨b, off, none⟩) xs.length cap0) := (hb.cell (p := ⟨w.heap.size, 0, none⟩) (by simp; omega)).trans (by simp)
      have hc2 : w1.cell? ⟨w.heap.size + 1, 0, none⟩ = some (.slice none 0 0) := (hb.cell (p := ⟨w.heap.size + 1, 0, none⟩) (by simp)).trans (by simp)
      have hf2 : w1.frozen? ⟨w.heap.size + 1, 0, none⟩ = false := (hb.frozen (p := ⟨w.heap.size + 1, 0, none⟩) (by simp)).trans (by simp)
      have hc3 : w1.cell? ⟨b, off + k, none⟩ = some (.int .i64 (nth xs k)) := (hb.cell (p := ⟨b, off + k, none⟩) (by simp; omega)).trans (alloc_cell (alloc_cell hc _) _)
      go_wp2_with fail
      refine (with_any _ xs k (-1) _ hi1 hn hk).mono ?_
      rintro e w2 ⟨v', rfl, hv, hfr, hb2⟩
      obtain ⟨ao2, cap2, ev, _⟩ := id hv
      subst ev
      have hz1 := hb.size
      simp only [World.size_alloc] at hz1
      have hd2 : w2.cell? ⟨w.heap.size + 1, 0, none⟩ = some (.slice none 0 0) := (hb2.cell (p := ⟨w.heap.size + 1, 0, none⟩) (by simp; omega)).trans hc2
      have hg2 : w2.frozen? ⟨w.heap.size + 1, 0, none⟩ = false := (hb2.frozen (p := ⟨w.heap.size + 1, 0, none⟩) (by simp; omega)).trans hf2
      clear hc1 hc2 hf2 hc3
      go_wp2_with fail
      rw [Hf.out, if_neg (not_not_intro Hw.out)]
      refine bodyPost_ret (v := .tuple #[.agg #[.slice ao2 (xs.set k (-1)).length cap2], .int .i64 0]) (by simp [results, Try.results15, go_sem, hd2]) rfl ⟨_, rfl, hv.fr ((Fr.refl (· = w.heap.size + 1) _).setCell (by simp) _) (fun k hk => by have := hfr k hk; omega), hfr.mono (by omega), ?_⟩
      exact (((((Below.refl _ _).alloc (Nat.le_refl _) _).alloc (by simp) _).trans (hb.mono (by omega))).trans (hb2.mono (by omega))).setCell (by simp) _
    · have hw' : (nth xs k != who) = true := by simpa using hw
      have Hw := Lib.hid hw
      clear hw
      go_enter Try.func15, Try.ntmps15
      go_wp2_with fail
      refine (odd_any _ _ _ _ _ _ (by omega)).mono ?_
      rintro e w1 ⟨rfl, hb⟩
      rw [ho]
      simp only [World.size_alloc] at hb
      have hc1 : w1.cell? ⟨w.heap.size, 0, none⟩ = some (.slice (some ⟨b, off, none⟩) xs.length cap0) := (hb.cell (p := ⟨w.heap.size, 0, none⟩) (by simp; omega)).trans (by simp)
      have hc2 : w1.cell? ⟨w.heap.size + 1, 0, none⟩ = some (.slice none 0 0) := (hb.cell (p := ⟨w.heap.size + 1, 0, none⟩) (by simp)).trans (by simp)
      have hf2 : w1.frozen? ⟨w.heap.size + 1, 0, none⟩ = false := (hb.frozen (p := ⟨w.heap.size + 1, 0, none⟩) (by simp)).trans (by simp)
      have hc3 : w1.cell? ⟨b, off + k, none⟩ = some (.int .i64 (nth xs k)) := (hb.cell (p := ⟨b, off + k, none⟩) (by simp; omega)).trans (alloc_cell (alloc_cell hc _) _)
      go_wp2_with fail
      rw [Hf.out, if_pos Hw.out]
      refine bodyPost_ret (v := .tuple #[.agg #[.slice none 0 0], .int .i64 4]) (by simp [results, Try.results15, go_sem, hc2]) rfl ⟨.slice none 0 0, rfl, IsInts.nil _, From.nil _, ?_⟩
      exact ((((Below.refl _ _).alloc (Nat.le_refl _) _).alloc (by simp) _).trans (hb.mono (by omega))).setCell (by simp) _
end Go.Proofs.Ytnammleaglmjaaa
