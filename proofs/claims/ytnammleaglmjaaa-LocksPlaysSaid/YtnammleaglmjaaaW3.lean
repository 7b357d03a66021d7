/- Locks anew: so many that nobody has, by the program and by the reference. No condition. -/
import Derived.Test.YtnammleaglmjaaaW1
import Derived.Laws.CopyOwn
import Derived.Deep.OwnRows
import Derived.Deep.RegionLaw
namespace Go.Proofs.Ytnammleaglmjaaa
open Go.RowKit

/-- So many that nobody has, and zeros behind. -/
def mix (n k : Nat) : List Value := List.replicate k (.int .i64 (-1)) ++ List.replicate (n - k) (.int .i64 0)
/-- So many that nobody has. -/
def ones (k : Nat) : List Value := List.replicate k (.int .i64 (-1))
theorem length_mix {n k : Nat} (h : k ≤ n) : (mix n k).length = n := by simp [mix]; omega
theorem length_ones (k : Nat) : (ones k).length = k := by simp [ones]
theorem ones_get {k j : Nat} {v : Value} (h : (ones k)[j]? = some v) : j < k ∧ v = .int .i64 (-1) := by
  simp [ones, List.getElem?_replicate] at h; exact ⟨h.1, h.2.symm⟩
theorem ones_one (k : Nat) : ∀ v ∈ ones k, v.oneCell' = true := by
  intro v hv; simp [ones] at hv; rw [hv.2]; rfl
theorem mix_get {n k j : Nat} (h : j < k) : (mix n k)[j]? = some (.int .i64 (-1)) := by
  simp [mix, List.getElem?_append, h]
theorem splice_mix {n k m : Nat} (h : k + m ≤ n) : splice (mix n k) k (ones m) = mix n (k + m) := by
  unfold splice mix ones
  rw [List.take_left' (by simp), List.length_replicate, List.drop_append, ← List.append_assoc, List.replicate_append_replicate]
  congr 1
  rw [List.drop_eq_nil_of_le (by simp), List.nil_append, List.drop_replicate, List.length_replicate]
  congr 1
  omega
theorem made_mix (n : Nat) : madeCells #[.int .i64 0] n = (mix n 0).toArray := by
  apply Array.ext'
  simp [madeCells, mix]
  apply List.ext_getElem
  · simp
  · intro i h1 h2; simp [Nat.mod_one]

theorem mul_one_any (n : Nat) (w : World) (hn : n ≤ 65) : Calls Try.prog 29 #[.int .u64 1, .int .u64 (n : Int)] w fun e w' => e = .returned (.tuple #[.int .u64 0, .int .u64 (n : Int)]) ∧ w = w' := by
  refine (Try.bits_Mul 1 n (by omega) (by omega) w).mono ?_
  rintro e w' ⟨rfl, rfl⟩
  have h1 : 1 * n / 18446744073709551616 = 0 := by omega
  have h2 : 1 * n % 18446744073709551616 = n := by omega
  rw [h1, h2]
  exact ⟨rfl, rfl⟩

set_option maxHeartbeats 800000 in
theorem repeat_any (b n : Nat) (w : World) (hn : n ≤ 65) (hc : w.cell? ⟨b, 0, none⟩ = some (.int .i64 (-1))) :
    Calls Try.prog 22 #[.slice (some ⟨b, 0, none⟩) 1 1, .int .i64 (n : Int)] w fun e w' => ∃ g, e = .returned (.slice (some ⟨g, 0, none⟩) n n) ∧ w.heap.size ≤ g ∧ w'.heap[g]? = some (.cells (mix n n).toArray 3 (0, 0)) ∧ Below w.heap.size w w' := by
  have hbn : (n : Int) ≤ 65 := by omega
  have hmk := run_make_row' (P := Try.prog) 23 3 (.int .i64 0) 8 Try.underlying23 Try.info3 rfl .i64 .i64 n (by omega) (by omega)
  go_enter Try.func22, Try.ntmps22
  go_wp2_with fail
  refine (mul_one_any n _ hn).mono ?_
  rintro e w' ⟨rfl, rfl⟩
  obtain ⟨m, hm⟩ : ∃ m, m = min 1 n := ⟨_, rfl⟩
  have hml : m ≤ n := by omega
  have Hm := Lib.hid hm
  have hm1 : m ≤ 1 := by omega
  clear hm
  have Hl1 : Hid ((ones m).length = Nat.min 1 n) := (length_ones m).trans Hm.out
  have hgn : (w.alloc (.cells (madeCells #[.int .i64 0] n) 3)).heap[w.heap.size]? = some (.cells (mix n 0).toArray 3 (0, 0)) := by
    rw [← made_mix]; exact heap_alloc_new w _
  have Hgn := Lib.hid hgn
  clear hgn
  have hcc := alloc_cell hc (.cells (madeCells #[.int .i64 0] n) 3)
  go_wp2_with (refine wpList_copy_splice rfl (.tmp 31) (.tmp 32) 23 23 rfl 3 Try.underlying23 (by kernel_rfl) (some ⟨w.heap.size, 0, none⟩) (some ⟨b, 0, none⟩) n n 1 1 rfl rfl w.heap.size 0 (mix n 0) 3 Hgn.out (ones m) Hl1.out ?_ ?_ (ones_one _) w.heap.size w ((Below.refl _ _).alloc (Nat.le_refl _) _) (Nat.le_refl _) ?_)
  case refine_1 =>
    intro _ j v hj
    obtain ⟨h1, h2⟩ := ones_get hj
    obtain rfl : j = 0 := by omega
    subst h2
    exact hcc
  case refine_2 => rw [length_ones, length_mix (by omega)]; omega
  intro w2 hg2 hb2
  rw [length_ones]
  have Hg2 : Hid (w2.heap[w.heap.size]? = some (Obj.cells (mix n m).toArray 3)) := by
    have h := hg2.out
    rw [splice_mix (by omega), Nat.zero_add] at h
    exact h
  clear hg2 Hgn hcc Hl1
  go_wp2_with fail
  go_loopw [8] (fun i wr => ∃ k : Nat, i = .int .i64 k ∧ m ≤ k ∧ k ≤ n ∧ Hid (wr.heap[w.heap.size]? = some (Obj.cells (mix n k).toArray 3)) ∧ Below w.heap.size w wr) (fun i _ => n - (intOf i).toNat)
  case atStart => exact ⟨m, rfl, by omega, by omega, Hg2, hb2⟩
  case round =>
    obtain ⟨k, rfl, hmk, hkn, Hg, hb⟩ := hrel
    clear Hg2 hb2
    by_cases hlt : k < n
    · have hk0 : 0 < k := by have := Hm.out; omega
      obtain ⟨m2, hm2⟩ : ∃ m2, m2 = min k (n - k) := ⟨_, rfl⟩
      have Hl2 : Hid ((ones m2).length = Nat.min k (n - k)) := (length_ones m2).trans hm2
      have hm2a : 0 < m2 := by omega
      have hm2b : k + m2 ≤ n := by omega
      have hm2c : m2 ≤ k := by omega
      clear hm2
      have H1 : Hid (∀ j v, (ones m2)[j]? = some v → wr.drew.cell? ((⟨w.heap.size, 0, none⟩ : Addr).add j) = some v) := by
        intro j v hj
        obtain ⟨h1, rfl⟩ := ones_get hj
        have : (⟨w.heap.size, 0, none⟩ : Addr).add j = ⟨w.heap.size, j, none⟩ := by unfold Addr.add; split <;> simp_all
        rw [this, cell_of_row wr.drew w.heap.size j _ 3 (0, 0) Hg.out]
        simpa using mix_get (n := n) (show j < k by omega)
      obtain ⟨w4, hcp, hg4, hb4⟩ : ∃ w4, (Builtin.copy_ #[23, 23] 3 #[.slice (some ⟨w.heap.size, k, none⟩) (n - k) (n - k), .slice (some ⟨w.heap.size, 0, none⟩) k n]).run Try.prog wr.drew = .ok (.int .i64 (m2 : Int)) w4 ∧
          Hid (w4.heap[w.heap.size]? = some (Obj.cells (splice (mix n k) k (ones m2)).toArray 3)) ∧ Below w.heap.size w w4 := by
        have hr := run_copy_row (P := Try.prog) wr.drew 23 23 3 3 w.heap.size k (n - k) (n - k) ⟨w.heap.size, 0, none⟩ k n _ 3 (ones m2) Try.underlying23 (by kernel_rfl) Hg.out Hl2.out H1.out (by rw [length_ones, List.size_toArray, length_mix hkn]; omega) (ones_one _)
        rw [length_ones] at hr
        refine ⟨_, hr, ?_, below_setRow hb.drew (Nat.le_refl _) _⟩
        have hs := setRow_heap wr.drew w.heap.size _ ((((mix n k).toArray.toList.take k ++ ones m2 ++ (mix n k).toArray.toList.drop (k + m2))).toArray) 3 _ Hg.out
        show _ = _
        rw [hs]
        simp [splice, length_ones]
      have hnk : n ≠ k := by omega
      clear H1 Hl2
      go_wp2_with fail
      go_region
      have Hg4 : Hid (w4.heap[w.heap.size]? = some (Obj.cells (mix n (k + m2)).toArray 3)) := by
        have h := hg4.out
        rw [splice_mix (by omega)] at h
        exact h
      clear hg4 Hg hcp
      go_wp2_with fail
      go_roundw
      case rel => exact ⟨k + m2, by go_num, by omega, by omega, Hg4, hb4⟩
      case measure => simp [intOf]; omega
    · obtain rfl : n = k := by omega
      go_wp2_with fail
      go_ret
      exact ⟨_, rfl, Nat.le_refl _, Hg.out, hb⟩
end Go.Proofs.Ytnammleaglmjaaa
