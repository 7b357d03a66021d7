/- Locks anew, by the program and by the reference: the two are the same. No condition. -/
import Derived.Test.YtnammleaglmjaaaW3
namespace Go.Proofs.Ytnammleaglmjaaa
open Go.RowKit

/-- So many locks. -/
def newM (n : Int) : List Int × Int := if n < 0 ∨ 65 < n then ([], 1) else (List.replicate n.toNat (-1), 0)

theorem ones_ints {w : World} {g n c : Nat} {cur : List Value} (h : w.heap[g]? = some (.cells cur.toArray 3 (0, 0))) (hc : ∀ i, i < n → cur[i]? = some (.int .i64 (-1))) : IsInts w (.slice (some ⟨g, 0, none⟩) n c) (List.replicate n (-1)) := by
  refine ⟨_, c, by rw [List.length_replicate], .inr ⟨g, 0, rfl, fun i hi => ?_⟩⟩
  rw [List.length_replicate] at hi
  rw [Nat.zero_add, cell_of_row w g i _ 3 (0, 0) h]
  simp [hc i hi, nth, List.getD, hi]

theorem new_any (n : Int) (w : World) : Calls Try.prog 11 #[.int .i64 n] w (Gives w (newM n)) := by
  by_cases h1 : n < 0
  · have hm : newM n = ([], 1) := by simp [newM, h1]
    rw [hm]
    go_enter Try.func11, Try.ntmps11
    go_wp2_with fail
    refine bodyPost_ret (v := .tuple #[.agg #[.slice none 0 0], .int .i64 1]) (by simp [results, Try.results11, go_sem]) rfl ⟨.slice none 0 0, rfl, IsInts.nil _, From.nil _, ?_⟩
    exact (Below.refl _ _).alloc (Nat.le_refl _) _
  · by_cases h2 : 65 < n
    · have hm : newM n = ([], 1) := by simp [newM, h2]
      rw [hm]
      go_enter Try.func11, Try.ntmps11
      go_wp2_with fail
      refine bodyPost_ret (v := .tuple #[.agg #[.slice none 0 0], .int .i64 1]) (by simp [results, Try.results11, go_sem]) rfl ⟨.slice none 0 0, rfl, IsInts.nil _, From.nil _, ?_⟩
      exact (Below.refl _ _).alloc (Nat.le_refl _) _
    · obtain ⟨k, rfl⟩ := Int.eq_ofNat_of_zero_le (show 0 ≤ n by omega)
      have hm : newM (k : Int) = (List.replicate k (-1), 0) := by simp [newM]; omega
      rw [hm]
      go_enter Try.func11, Try.ntmps11
      go_wp2_with fail
      refine (repeat_any (w.heap.size + 1) k _ (by omega) (by simp)).mono ?_
      rintro e w1 ⟨g, rfl, hg, hr, hb⟩
      simp only [World.size_alloc] at hg hb
      have Hr := Lib.hid hr
      clear hr
      have hc2 : w1.cell? ⟨w.heap.size, 0, none⟩ = some (.slice none 0 0) := (hb.cell (p := ⟨w.heap.size, 0, none⟩) (by simp; omega)).trans (by simp)
      have hf2 : w1.frozen? ⟨w.heap.size, 0, none⟩ = false := (hb.frozen (p := ⟨w.heap.size, 0, none⟩) (by simp; omega)).trans (by simp)
      go_wp2_with fail
      refine bodyPost_ret (v := .tuple #[.agg #[.slice (some ⟨g, 0, none⟩) k k], .int .i64 0]) (by simp [results, Try.results11, go_sem, hc2]) rfl ⟨_, rfl, ?_, ?_, ?_⟩
      · exact (ones_ints Hr.out (fun i hi => mix_get hi)).fr ((Fr.refl (· = w.heap.size) _).setCell (by simp) _) (fun k hk => by simp [Value.ownBlock] at hk; omega)
      · intro k hk; simp [Value.ownBlock] at hk; omega
      · exact ((((Below.refl _ _).alloc (Nat.le_refl _) _).alloc (by simp) _).trans (hb.mono (by omega))).setCell (by simp) _

theorem rnew_bad (n : Int) (w : World) (h : n < 0 ∨ 65 < n) : Calls Try.prog 16 #[.int .i64 n] w (Gives w ([], 1)) := by
  by_cases h1 : n < 0
  · clear h
    go_enter Try.func16, Try.ntmps16
    go_wp2_with fail
    refine bodyPost_ret (v := .tuple #[.agg #[.slice none 0 0], .int .i64 1]) (by simp [results, Try.results16, go_sem]) rfl ⟨.slice none 0 0, rfl, IsInts.nil _, From.nil _, ?_⟩
    exact (Below.refl _ _).alloc (Nat.le_refl _) _
  · have h2 : 65 < n := by omega
    clear h
    go_enter Try.func16, Try.ntmps16
    go_wp2_with fail
    refine bodyPost_ret (v := .tuple #[.agg #[.slice none 0 0], .int .i64 1]) (by simp [results, Try.results16, go_sem]) rfl ⟨.slice none 0 0, rfl, IsInts.nil _, From.nil _, ?_⟩
    exact (Below.refl _ _).alloc (Nat.le_refl _) _

/-- What holds behind i rounds: the result's cell, the variable's, the row. -/
structure RNew (w wr : World) (v : Value) (i : Nat) : Prop where
  res : wr.cell? ⟨w.heap.size, 0, none⟩ = some (.slice none 0 0)
  resf : wr.frozen? ⟨w.heap.size, 0, none⟩ = false
  var : wr.cell? ⟨w.heap.size + 1, 0, none⟩ = some v
  varf : wr.frozen? ⟨w.heap.size + 1, 0, none⟩ = false
  row : wr.ownsRow (w.heap.size + 2) 3 1 v i (ones i)
  below : Below w.heap.size w wr
  size : w.heap.size + 2 ≤ wr.heap.size

theorem one_new (w : World) : ∀ (j : Nat) (u : Value), (ones 1)[j]? = some u → (w.alloc (.cells #[.int .i64 (-1)] 3)).cell? ((⟨w.heap.size, 0, none⟩ : Addr).add j) = some u := by
  intro j u hj
  obtain ⟨h1, rfl⟩ := ones_get hj
  obtain rfl : j = 0 := by omega
  simp [Addr.add]

/-- A row whose value is a slice. -/
theorem owns_form {w : World} {B : Nat} {e : TypeId} {s n : Nat} {v : Value} {xs : List Value} (h : w.ownsRow B e s v n xs) : ∃ ao c, v = .slice ao n c := by
  rcases h.2 with ⟨rfl, rfl⟩ | ⟨g, cap, cur, rfl, _⟩
  · exact ⟨_, _, rfl⟩
  · exact ⟨_, _, rfl⟩

theorem RNew.step {w wr w1 : World} {v v' : Value} {k : Nat} (h : RNew w wr v k) (hown : w1.ownsRow (w.heap.size + 2) 3 1 v' (k + 1) (ones k ++ ones 1)) (hg : (wr.alloc (.cells #[.int .i64 (-1)] 3)).grownBy w1 v.ownBlock) :
    w1.cell? ⟨w.heap.size + 1, 0, none⟩ = some v ∧ w1.frozen? ⟨w.heap.size + 1, 0, none⟩ = false ∧ RNew w (w1.setCell ⟨w.heap.size + 1, 0, none⟩ v') v' (k + 1) := by
  have hsz := h.size
  have hne : ∀ j, j ≤ 1 → some (w.heap.size + j) ≠ v.ownBlock := fun j hj e => by have := (h.row.lt _ e.symm).1; omega
  have hb : ∀ j, j ≤ 1 → w1.heap[w.heap.size + j]? = wr.heap[w.heap.size + j]? := fun j hj =>
    (hg.block _ (by simp; omega) (hne j hj)).trans (Below.heap_alloc _ _ _ (by omega))
  have hb0 := hb 0 (by omega)
  have hb1 := hb 1 (by omega)
  rw [Nat.add_zero] at hb0
  have hc1 : w1.cell? ⟨w.heap.size + 1, 0, none⟩ = some v := (World.cell?_of_block (w := wr) hb1).trans h.var
  have hf1 : w1.frozen? ⟨w.heap.size + 1, 0, none⟩ = false := (World.frozen?_of_block (w := wr) hb1).trans h.varf
  have hc0 : w1.cell? ⟨w.heap.size, 0, none⟩ = some (.slice none 0 0) := (World.cell?_of_block (w := wr) hb0).trans h.res
  have hf0 : w1.frozen? ⟨w.heap.size, 0, none⟩ = false := (World.frozen?_of_block (w := wr) hb0).trans h.resf
  refine ⟨hc1, hf1, ?_, ?_, ?_, ?_, ?_, ?_, ?_⟩
  · rw [World.cell?_setCell_other _ _ _ _ (by simp)]; exact hc0
  · rw [World.frozen?_setCell]; exact hf0
  · exact World.cell?_setCell_same _ _ _ hc1
  · rw [World.frozen?_setCell]; exact hf1
  · have := ownsRow_setCell_below hown (a := ⟨w.heap.size + 1, 0, none⟩) (by simp) v'
    rwa [show ones k ++ ones 1 = ones (k + 1) from by unfold ones; rw [List.replicate_append_replicate]] at this
  · exact ((h.below.alloc (by omega) _).grown hg (by simp; omega) (fun k hk => by have := (h.row.lt _ hk).1; omega)).setCell (by simp) _
  · have := hg.size; simp at this ⊢; omega

set_option maxHeartbeats 800000 in
theorem rnew_ok (n : Nat) (w : World) (hn : n ≤ 65) : Calls Try.prog 16 #[.int .i64 (n : Int)] w (Gives w (List.replicate n (-1), 0)) := by
  have hbn : (n : Int) ≤ 65 := by omega
  obtain ⟨i0, hi, hz0, hz1, hz2⟩ := info_parts Try.info3
  have Hi := Lib.hid hi
  have Hz0 := Lib.hid hz0
  have Hz1 := Lib.hid hz1
  have Hz2 := Lib.hid hz2
  clear hi hz0 hz1 hz2
  have h0 : RNew w ((w.alloc (.cells #[.slice none 0 0] 29)).alloc (.cells #[.slice none 0 0] 29)) (.slice none 0 0) 0 :=
    ⟨by simp, by simp, by simp, by simp, World.ownsRow_nil _ _ _ _, ((Below.refl _ _).alloc (Nat.le_refl _) _).alloc (by simp) _, by simp⟩
  go_enter Try.func16, Try.ntmps16
  go_wp2_with fail
  go_loopw [5] (fun i wr => ∃ (k : Nat) (v : Value), i = .int .i64 k ∧ k ≤ n ∧ RNew w wr v k) (fun i _ => n - (intOf i).toNat)
  case atStart => exact ⟨0, _, rfl, Nat.zero_le _, h0⟩
  case round =>
    obtain ⟨k, v, rfl, hk, hR⟩ := hrel
    clear h0
    by_cases hlt : k < n
    · have hvar := hR.var
      have hvarf := hR.varf
      obtain ⟨ao, c, rfl⟩ := owns_form hR.row
      have hsz := hR.size
      go_wp2_with (at_builtin; refine wpList_append_own _ rfl (.tmp 19) (.tmp 20) 23 rfl (w.heap.size + 2) 3 i0 (.int .i64 0) 1 8 Try.underlying23 Hi.out Hz0.out Hz1.out Hz2.out rfl (by decide) _ k (ones k) rfl (hR.row.alloc _) ⟨wr.heap.size, 0, none⟩ 1 1 (ones 1) rfl rfl (one_new _) (ones_one _) ?c3 ?c4 ?c5 ?_)
      case c3 => unfold maxLen; omega
      case c4 => omega
      case c5 => simp; omega
      intro v' w1 hown hgr _
      obtain ⟨hc1, hf1, hR1⟩ := hR.step hown hgr
      obtain ⟨ao', c', rfl⟩ := owns_form hown
      clear hown hgr hvar hvarf hR
      go_wp2_with fail
      go_roundw
      case rel => exact ⟨k + 1, _, by go_num, by omega, hR1⟩
      case measure => simp [intOf]; omega
    · obtain rfl : n = k := by omega
      have hvar := hR.var
      have hvarf := hR.varf
      have hres := hR.res
      have hresf := hR.resf
      obtain ⟨ao, c, rfl⟩ := owns_form hR.row
      go_wp2_with fail
      refine bodyPost_ret (v := .tuple #[.agg #[.slice ao n c], .int .i64 0]) (by simp [results, Try.results16, go_sem, hres]) rfl ⟨_, rfl, ?_, ?_, ?_⟩
      · have hi := IsInts.ofRow (xs := List.replicate n (-1)) (v := .slice ao n c) (w := wr) (B := w.heap.size + 2) (by simpa [ones] using hR.row)
        exact hi.fr ((Fr.refl (· = w.heap.size) _).setCell (by simp) _) (fun k hk => by have := (hR.row.lt k hk).1; omega)
      · intro k hk; have := (hR.row.lt k hk).1; omega
      · exact hR.below.setCell (by simp) _

theorem rnew_any (n : Int) (w : World) : Calls Try.prog 16 #[.int .i64 n] w (Gives w (newM n)) := by
  by_cases h : n < 0 ∨ 65 < n
  · have hm : newM n = ([], 1) := by simp [newM, h]
    rw [hm]; exact rnew_bad n w h
  · obtain ⟨k, rfl⟩ := Int.eq_ofNat_of_zero_le (show 0 ≤ n by omega)
    have hm : newM (k : Int) = (List.replicate k (-1), 0) := by simp [newM]; omega
    rw [hm]; exact rnew_ok k w (by omega)
end Go.Proofs.Ytnammleaglmjaaa
