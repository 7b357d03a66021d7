/- The reference's functions on locks do what the plain words say. No condition. -/
import Derived.Test.YtnammleaglmjaaaW1
namespace Go.Proofs.Ytnammleaglmjaaa
open Go.RowKit

set_option maxHeartbeats 400000 in
theorem rtake_odd (ao : Option Addr) (cap0 : Nat) (xs : List Int) (lock who : Int) (w : World) (hn : xs.length * 8 ≤ 140737488355328) (ho : oddB xs.length lock who = true) :
    Calls Try.prog 19 #[.agg #[.slice ao xs.length cap0], .int .i64 lock, .int .i64 who] w (Gives w (takeM xs lock who)) := by
  have ho' := Lib.hid ho
  simp only [oddB, Bool.or_eq_true, decide_eq_true_eq] at ho
  replace ho' := ho'.out
  by_cases h1 : lock < 0
  · clear ho
    go_enter Try.func19, Try.ntmps19
    go_wp2_with fail
    refine bodyPost_ret (v := .tuple #[.agg #[.slice none 0 0], .int .i64 1]) (by simp [results, Try.results19, go_sem]) rfl ⟨.slice none 0 0, by simp [takeM, ho'], by simp [takeM, ho']; exact IsInts.nil _, From.nil _, ?_⟩
    exact ((Below.refl _ _).alloc (Nat.le_refl _) _).alloc (by simp) _
  · by_cases h2 : (xs.length : Int) ≤ lock
    · clear ho
      go_enter Try.func19, Try.ntmps19
      go_wp2_with fail
      refine bodyPost_ret (v := .tuple #[.agg #[.slice none 0 0], .int .i64 1]) (by simp [results, Try.results19, go_sem]) rfl ⟨.slice none 0 0, by simp [takeM, ho'], by simp [takeM, ho']; exact IsInts.nil _, From.nil _, ?_⟩
      exact ((Below.refl _ _).alloc (Nat.le_refl _) _).alloc (by simp) _
    · have h3 : who < 0 := by omega
      clear ho
      go_enter Try.func19, Try.ntmps19
      go_wp2_with fail
      refine bodyPost_ret (v := .tuple #[.agg #[.slice none 0 0], .int .i64 1]) (by simp [results, Try.results19, go_sem]) rfl ⟨.slice none 0 0, by simp [takeM, ho'], by simp [takeM, ho']; exact IsInts.nil _, From.nil _, ?_⟩
      exact ((Below.refl _ _).alloc (Nat.le_refl _) _).alloc (by simp) _

set_option maxHeartbeats 400000 in
theorem rgive_odd (ao : Option Addr) (cap0 : Nat) (xs : List Int) (lock who : Int) (w : World) (hn : xs.length * 8 ≤ 140737488355328) (ho : oddB xs.length lock who = true) :
    Calls Try.prog 20 #[.agg #[.slice ao xs.length cap0], .int .i64 lock, .int .i64 who] w (Gives w (giveM xs lock who)) := by
  have ho' := Lib.hid ho
  simp only [oddB, Bool.or_eq_true, decide_eq_true_eq] at ho
  replace ho' := ho'.out
  by_cases h1 : lock < 0
  · clear ho
    go_enter Try.func20, Try.ntmps20
    go_wp2_with fail
    refine bodyPost_ret (v := .tuple #[.agg #[.slice none 0 0], .int .i64 1]) (by simp [results, Try.results20, go_sem]) rfl ⟨.slice none 0 0, by simp [giveM, ho'], by simp [giveM, ho']; exact IsInts.nil _, From.nil _, ?_⟩
    exact ((Below.refl _ _).alloc (Nat.le_refl _) _).alloc (by simp) _
  · by_cases h2 : (xs.length : Int) ≤ lock
    · clear ho
      go_enter Try.func20, Try.ntmps20
      go_wp2_with fail
      refine bodyPost_ret (v := .tuple #[.agg #[.slice none 0 0], .int .i64 1]) (by simp [results, Try.results20, go_sem]) rfl ⟨.slice none 0 0, by simp [giveM, ho'], by simp [giveM, ho']; exact IsInts.nil _, From.nil _, ?_⟩
      exact ((Below.refl _ _).alloc (Nat.le_refl _) _).alloc (by simp) _
    · have h3 : who < 0 := by omega
      clear ho
      go_enter Try.func20, Try.ntmps20
      go_wp2_with fail
      refine bodyPost_ret (v := .tuple #[.agg #[.slice none 0 0], .int .i64 1]) (by simp [results, Try.results20, go_sem]) rfl ⟨.slice none 0 0, by simp [giveM, ho'], by simp [giveM, ho']; exact IsInts.nil _, From.nil _, ?_⟩
      exact ((Below.refl _ _).alloc (Nat.le_refl _) _).alloc (by simp) _

set_option maxHeartbeats 400000 in
theorem rtake_any (v : Value) (xs : List Int) (lock who : Int) (w : World) (h : IsInts w v xs) (hn : xs.length * 8 ≤ 140737488355328) :
    Calls Try.prog 19 #[.agg #[v], .int .i64 lock, .int .i64 who] w (Gives w (takeM xs lock who)) := by
  by_cases ho : oddB xs.length lock who = true
  · obtain ⟨ao, cap0, rfl, h⟩ := h
    exact rtake_odd ao cap0 xs lock who w hn ho
  · have ho : oddB xs.length lock who = false := by simpa using ho
    obtain ⟨h1, h2, h3⟩ := oddB_false ho
    obtain ⟨k, rfl⟩ := Int.eq_ofNat_of_zero_le h1
    have hk : k < xs.length := by omega
    have hi := h
    obtain ⟨ao, cap0, rfl, h0 | ⟨b, off, rfl, hc0⟩⟩ := h
    · omega
    have hc := hc0 k hk
    have hbl := World.block_lt_of_cell? w _ hc
    simp only at hbl
    clear hc0
    have hft : takeM xs (k : Int) who = if nth xs k = who then ([], 4) else if 0 ≤ nth xs k then ([], 11) else (xs.set k who, 0) := by simp [takeM, ho]
    have Hf := Lib.hid hft
    clear hft
    have hi1 := ((hi.alloc (.cells #[.slice (some ⟨b, off, none⟩) xs.length cap0] 29)).alloc (.cells #[.slice none 0 0] 29))
    have hc3 : ((w.alloc (.cells #[.slice (some ⟨b, off, none⟩) xs.length cap0] 29)).alloc (.cells #[.slice none 0 0] 29)).cell? ⟨b, off + k, none⟩ = some (.int .i64 (nth xs k)) := alloc_cell (alloc_cell hc _) _
    by_cases hw : nth xs k = who
    · have hw' : (nth xs k == who) = true := by simpa using hw
      have Hw := Lib.hid hw
      clear hw
      go_enter Try.func19, Try.ntmps19
      go_wp2_with fail
      rw [Hf.out, if_pos Hw.out]
      refine bodyPost_ret (v := .tuple #[.agg #[.slice none 0 0], .int .i64 4]) (by simp [results, Try.results19, go_sem]) rfl ⟨.slice none 0 0, rfl, IsInts.nil _, From.nil _, ?_⟩
      exact ((Below.refl _ _).alloc (Nat.le_refl _) _).alloc (by simp) _
    · have hw' : (nth xs k == who) = false := by simpa using hw
      have Hw := Lib.hid hw
      clear hw
      by_cases hg : 0 ≤ nth xs k
      · go_enter Try.func19, Try.ntmps19
        go_wp2_with fail
        rw [Hf.out, if_neg Hw.out, if_pos hg]
        refine bodyPost_ret (v := .tuple #[.agg #[.slice none 0 0], .int .i64 11]) (by simp [results, Try.results19, go_sem]) rfl ⟨.slice none 0 0, rfl, IsInts.nil _, From.nil _, ?_⟩
        exact ((Below.refl _ _).alloc (Nat.le_refl _) _).alloc (by simp) _
      · go_enter Try.func19, Try.ntmps19
        go_wp2_with fail
        refine (put_any _ xs k who _ hi1 hn hk).mono ?_
        rintro e w2 ⟨v', rfl, hv, hfr, hb2⟩
        obtain ⟨ao2, cap2, ev, _⟩ := id hv
        subst ev
        simp only [World.size_alloc] at hfr hb2
        have hd2 : w2.cell? ⟨w.heap.size + 1, 0, none⟩ = some (.slice none 0 0) := (hb2.cell (p := ⟨w.heap.size + 1, 0, none⟩) (by simp)).trans (by simp)
        have hg2 : w2.frozen? ⟨w.heap.size + 1, 0, none⟩ = false := (hb2.frozen (p := ⟨w.heap.size + 1, 0, none⟩) (by simp)).trans (by simp)
        clear hc3
        go_wp2_with fail
        rw [Hf.out, if_neg Hw.out, if_neg (by omega)]
        refine bodyPost_ret (v := .tuple #[.agg #[.slice ao2 (xs.set k who).length cap2], .int .i64 0]) (by simp [results, Try.results19, go_sem, hd2]) rfl ⟨_, rfl, hv.fr ((Fr.refl (· = w.heap.size + 1) _).setCell (by simp) _) (fun k hk => by have := hfr k hk; omega), hfr.mono (by omega), ?_⟩
        exact ((((Below.refl _ _).alloc (Nat.le_refl _) _).alloc (by simp) _).trans (hb2.mono (by omega))).setCell (by first | simp | exact Nat.le_succ _) _

set_option maxHeartbeats 400000 in
theorem rgive_any (v : Value) (xs : List Int) (lock who : Int) (w : World) (h : IsInts w v xs) (hn : xs.length * 8 ≤ 140737488355328) :
    Calls Try.prog 20 #[.agg #[v], .int .i64 lock, .int .i64 who] w (Gives w (giveM xs lock who)) := by
  by_cases ho : oddB xs.length lock who = true
  · obtain ⟨ao, cap0, rfl, h⟩ := h
    exact rgive_odd ao cap0 xs lock who w hn ho
  · have ho : oddB xs.length lock who = false := by simpa using ho
    obtain ⟨h1, h2, h3⟩ := oddB_false ho
    obtain ⟨k, rfl⟩ := Int.eq_ofNat_of_zero_le h1
    have hk : k < xs.length := by omega
    have hi := h
    obtain ⟨ao, cap0, rfl, h0 | ⟨b, off, rfl, hc0⟩⟩ := h
    · omega
    have hc := hc0 k hk
    have hbl := World.block_lt_of_cell? w _ hc
    simp only at hbl
    clear hc0
    have hft : giveM xs (k : Int) who = if nth xs k ≠ who then ([], 4) else (xs.set k (-1), 0) := by simp [giveM, ho]
    have Hf := Lib.hid hft
    clear hft
    have hi1 := ((hi.alloc (.cells #[.slice (some ⟨b, off, none⟩) xs.length cap0] 29)).alloc (.cells #[.slice none 0 0] 29))
    have hc3 : ((w.alloc (.cells #[.slice (some ⟨b, off, none⟩) xs.length cap0] 29)).alloc (.cells #[.slice none 0 0] 29)).cell? ⟨b, off + k, none⟩ = some (.int .i64 (nth xs k)) := alloc_cell (alloc_cell hc _) _
    by_cases hw : nth xs k = who
    · have hw' : (nth xs k != who) = false := by simpa using hw
      have Hw := Lib.hid hw
      clear hw
      go_enter Try.func20, Try.ntmps20
      go_wp2_with fail
      refine (put_any _ xs k (-1) _ hi1 hn hk).mono ?_
      rintro e w2 ⟨v', rfl, hv, hfr, hb2⟩
      obtain ⟨ao2, cap2, ev, _⟩ := id hv
      subst ev
      simp only [World.size_alloc] at hfr hb2
      have hd2 : w2.cell? ⟨w.heap.size + 1, 0, none⟩ = some (.slice none 0 0) := (hb2.cell (p := ⟨w.heap.size + 1, 0, none⟩) (by simp)).trans (by simp)
      have hg2 : w2.frozen? ⟨w.heap.size + 1, 0, none⟩ = false := (hb2.frozen (p := ⟨w.heap.size + 1, 0, none⟩) (by simp)).trans (by simp)
      clear hc3
      go_wp2_with fail
      rw [Hf.out, if_neg (not_not_intro Hw.out)]
      refine bodyPost_ret (v := .tuple #[.agg #[.slice ao2 (xs.set k (-1)).length cap2], .int .i64 0]) (by simp [results, Try.results20, go_sem, hd2]) rfl ⟨_, rfl, hv.fr ((Fr.refl (· = w.heap.size + 1) _).setCell (by simp) _) (fun k hk => by have := hfr k hk; omega), hfr.mono (by omega), ?_⟩
      exact ((((Below.refl _ _).alloc (Nat.le_refl _) _).alloc (by simp) _).trans (hb2.mono (by omega))).setCell (by first | simp | exact Nat.le_succ _) _
    · have hw' : (nth xs k != who) = true := by simpa using hw
      have Hw := Lib.hid hw
      clear hw
      go_enter Try.func20, Try.ntmps20
      go_wp2_with fail
      rw [Hf.out, if_pos Hw.out]
      refine bodyPost_ret (v := .tuple #[.agg #[.slice none 0 0], .int .i64 4]) (by simp [results, Try.results20, go_sem]) rfl ⟨.slice none 0 0, rfl, IsInts.nil _, From.nil _, ?_⟩
      exact ((Below.refl _ _).alloc (Nat.le_refl _) _).alloc (by simp) _
end Go.Proofs.Ytnammleaglmjaaa
