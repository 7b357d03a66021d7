/- Are lists, or waiters, the same? No condition. -/
import Derived.Test.YtnammleaglmjaaaW1
namespace Go.Proofs.Ytnammleaglmjaaa
open Go.RowKit

theorem list_eq_nth {xs ys : List Int} (hl : xs.length = ys.length) (h : ∀ i, i < xs.length → nth xs i = nth ys i) : xs = ys := by
  apply List.ext_getElem hl
  intro i h1 h2
  rw [nth_lt, nth_lt]; exact h i h1

set_option maxHeartbeats 400000 in
theorem ints_loop (b off c b' off' c' : Nat) (xs ys : List Int) (w : World) (hx : ∀ i, i < xs.length → w.cell? ⟨b, off + i, none⟩ = some (.int .i64 (nth xs i))) (hy : ∀ i, i < ys.length → w.cell? ⟨b', off' + i, none⟩ = some (.int .i64 (nth ys i))) (hl : xs.length = ys.length)
   (hm : xs.length ≤ 9223372036854775807) :
    Calls Try.prog 7 #[.slice (some ⟨b, off, none⟩) xs.length c, .slice (some ⟨b', off', none⟩) ys.length c'] w fun e w' => e = .returned (.bool (decide (xs = ys))) ∧ ∃ n, w' = w.drewN n := by
  rw [← hl]
  have hl' := Lib.hid hl
  have hx' := Lib.hid hx
  have hy' := Lib.hid hy
  clear hl hx hy
  go_enter Try.func7, Try.ntmps7
  go_wp2
  go_loopw [5] (fun i wr => ∃ k : Nat, k ≤ xs.length ∧ i = .int .i64 k ∧ Hid (∀ i, i < k → nth xs i = nth ys i) ∧ ∃ n, wr = w.drewN n) (fun i _ => xs.length - (intOf i).toNat)
  case atStart => exact ⟨0, Nat.zero_le _, rfl, fun i hi => by omega, 0, rfl⟩
  case round =>
    obtain ⟨k, hk, rfl, ht, n, rfl⟩ := hrel
    by_cases hlt : k < xs.length
    · have hx1 := hx'.out k hlt
      have hy1 := hy'.out k (by rw [← hl'.out]; exact hlt)
      by_cases he : nth xs k = nth ys k
      · have he1 : (nth xs k != nth ys k) = false := by simpa using he
        have he' := Lib.hid he
        clear he
        go_wp2
        go_quiet (fail)
        go_wp2
        go_roundw
        case rel => exact ⟨k + 1, by omega, by go_num, fun i hi => by
          by_cases e : i = k
          · subst e; exact he'.out
          · exact ht i (by omega), _, rfl⟩
        case measure => simp [intOf]; omega
      · have he1 : (nth xs k != nth ys k) = true := by simpa using he
        have he' := Lib.hid he
        clear he
        go_wp2
        go_quiet (fail)
        go_wp2
        go_ret
        exact ⟨by rw [decide_eq_false (fun e => he'.out (by rw [e]))]; rfl, _, World.drewN_drewN _ _ _⟩
    · go_wp2
      go_ret
      exact ⟨by rw [decide_eq_true (list_eq_nth hl'.out (fun i hi => ht i (by omega)))]; rfl, _, rfl⟩

theorem ints_any (u v : Value) (xs ys : List Int) (w : World) (hx : IsInts w u xs) (hy : IsInts w v ys) (hm : xs.length ≤ 9223372036854775807) :
    Calls Try.prog 7 #[u, v] w fun e w' => e = .returned (.bool (decide (xs = ys))) ∧ ∃ n, w' = w.drewN n := by
  obtain ⟨ao, c, rfl, hx⟩ := hx
  obtain ⟨ao', c', rfl, hy⟩ := hy
  by_cases hl : xs.length = ys.length
  · by_cases h0 : xs.length = 0
    · have e : xs = ys := by
        rw [List.eq_nil_of_length_eq_zero h0, List.eq_nil_of_length_eq_zero (by omega : ys.length = 0)]
      have h0' : ys.length = 0 := by omega
      rw [decide_eq_true e, h0, h0']
      clear hx hy hl hm e h0 h0'
      go_enter Try.func7, Try.ntmps7
      go_wp2
      go_loopw [5] (fun i wr => i = .int .i64 0 ∧ wr = w) (fun i _ => 0)
      case atStart => exact ⟨rfl, rfl⟩
      case round =>
        obtain ⟨rfl, rfl⟩ := hrel
        go_wp2
        go_ret
        exact ⟨rfl, 0, rfl⟩
    · rcases hx with h | ⟨b, off, rfl, hx⟩
      · exact absurd h h0
      rcases hy with h | ⟨b', off', rfl, hy⟩
      · omega
      exact ints_loop b off c b' off' c' xs ys w hx hy hl hm
  · have hne : ((xs.length : Int) != (ys.length : Int)) = true := by simp; omega
    rw [decide_eq_false (fun e => hl (by rw [e]))]
    clear hx hy hl
    go_enter Try.func7, Try.ntmps7
    go_wp2
    go_ret
    exact ⟨rfl, 0, rfl⟩

/-- Waiters lie in a slice value: what each has, and what it wants. -/
def IsWaiters (w : World) (v : Value) (ws : List (List Int × Int)) : Prop :=
  ∃ ao cap, v = .slice ao ws.length cap ∧ (ws.length = 0 ∨ ∃ b off, ao = some ⟨b, off, none⟩ ∧ ∀ i, i < ws.length →
    ∃ hv, w.cell? ⟨b, off + i * 2, none⟩ = some hv ∧ IsInts w hv (ws.getD i ([], 0)).1 ∧ w.cell? ⟨b, off + i * 2 + 1, none⟩ = some (.int .i64 (ws.getD i ([], 0)).2))

/-- One waiter of a list. -/
def wth (ws : List (List Int × Int)) (i : Nat) : List Int × Int := ws.getD i ([], 0)

theorem ws_eq {xs ys : List (List Int × Int)} (hl : xs.length = ys.length) (h : ∀ i, i < xs.length → wth xs i = wth ys i) : xs = ys := by
  apply List.ext_getElem hl
  intro i h1 h2
  have := h i h1
  simpa [wth, List.getD, h1, h2] using this

/-- The cells of waiters, from a place on. -/
def WCells (w : World) (b off : Nat) (ws : List (List Int × Int)) : Prop := ∀ i, i < ws.length →
    ∃ hv, w.cell? ⟨b, off + i * 2, none⟩ = some hv ∧ IsInts w hv (wth ws i).1 ∧ w.cell? ⟨b, off + i * 2 + 1, none⟩ = some (.int .i64 (wth ws i).2)

/-- A bound on all lists. -/
def Small (ws : List (List Int × Int)) : Prop := ∀ i, i < ws.length → (wth ws i).1.length ≤ 9223372036854775807

set_option maxHeartbeats 1600000 in
theorem same_loop (b off c b' off' c' : Nat) (xs ys : List (List Int × Int)) (w : World) (hx : WCells w b off xs) (hy : WCells w b' off' ys) (hl : xs.length = ys.length)
   (hm : xs.length ≤ 9223372036854775807) (hsm : Small xs) :
    Calls Try.prog 8 #[.slice (some ⟨b, off, none⟩) xs.length c, .slice (some ⟨b', off', none⟩) ys.length c'] w fun e w' => e = .returned (.bool (decide (xs = ys))) ∧ ∃ n, w' = w.drewN n := by
  rw [← hl]
  have hl' := Lib.hid hl
  clear hl
  go_enter Try.func8, Try.ntmps8
  go_wp2
  go_loopw [5, 6] (fun i _ wr => ∃ k : Nat, k ≤ xs.length ∧ i = .int .i64 k ∧ Hid (∀ i, i < k → wth xs i = wth ys i) ∧ ∃ n, wr = w.drewN n) (fun i _ _ => xs.length - (intOf i).toNat)
  case atStart => exact ⟨0, Nat.zero_le _, rfl, fun i hi => by omega, 0, rfl⟩
  case round =>
    obtain ⟨k, hk, rfl, ht, n, rfl⟩ := hrel
    by_cases hlt : k < xs.length
    · obtain ⟨hv, hc1, hi1, hw1⟩ := hx k hlt
      obtain ⟨hv', hc2, hi2, hw2⟩ := hy k (by rw [← hl'.out]; exact hlt)
      have hsk := hsm k hlt
      obtain ⟨X, eX⟩ : ∃ X, X = wth xs k := ⟨_, rfl⟩
      obtain ⟨Y, eY⟩ : ∃ Y, Y = wth ys k := ⟨_, rfl⟩
      rw [← eX] at hi1 hw1 hsk
      rw [← eY] at hi2 hw2
      have EX := Lib.hid eX
      have EY := Lib.hid eY
      clear eX eY
      obtain ⟨A, P⟩ := X
      obtain ⟨B, R⟩ := Y
      simp only at hi1 hw1 hi2 hw2 hsk
      obtain ⟨ao1, c1, rfl, hA⟩ := hi1
      obtain ⟨ao2, c2, rfl, hB⟩ := hi2
      have hdiff : ¬ (A = B ∧ P = R) → xs ≠ ys := fun hn e => hn (by subst e; have := EX.out.trans EY.out.symm; simpa using this)
      have Hdiff := Lib.hid hdiff
      clear hdiff
      have hgo : A = B → P = R → ∀ i, i < k + 1 → wth xs i = wth ys i := fun h1 h2 i hi => by
        by_cases e : i = k
        · subst e; rw [← EX.out, ← EY.out, h1, h2]
        · exact ht i (by omega)
      have Hgo := Lib.hid hgo
      clear hgo
      by_cases hP : P = R
      · have hP1 : (P != R) = false := by simpa using hP
        have HP := Lib.hid hP
        clear hP
        by_cases hL : A.length = B.length
        · have hL1 : ((A.length : Int) != (B.length : Int)) = false := by simp; omega
          have HL := Lib.hid hL
          by_cases h0 : A.length = 0
          · have hnil : A = B := by rw [List.eq_nil_of_length_eq_zero h0, List.eq_nil_of_length_eq_zero (by omega : B.length = 0)]
            have Hnil := Lib.hid hnil
            have HA := Lib.hid hA
            have HB := Lib.hid hB
            have h0' : (A.length : Int) ≤ 0 := by omega
            clear hnil hA hB hL h0
            go_wp2
            go_quiet (fail)
            go_wp2
            go_loopw [6] (fun i wr => i = .int .i64 0 ∧ ∃ n, wr = w.drewN n) (fun i _ => 0)
            case atStart => exact ⟨rfl, _, World.drewN_drewN _ _ _⟩
            case round =>
              obtain ⟨rfl, n2, rfl⟩ := hrel
              go_wp2
              go_roundw
              case rel => exact ⟨k + 1, by omega, by go_num, Hgo.out Hnil.out HP.out, _, rfl⟩
              case measure => simp [intOf]; omega
          · rcases hA with h | ⟨ab, aoff, rfl, hA⟩
            · exact absurd h h0
            rcases hB with h | ⟨bb, boff, rfl, hB⟩
            · omega
            have HA := Lib.hid hA
            have HB := Lib.hid hB
            clear hA hB hL h0
            go_wp2
            go_quiet (fail)
            go_wp2
            go_loopw [6] (fun i wr => ∃ j : Nat, j ≤ A.length ∧ i = .int .i64 j ∧ Hid (∀ i, i < j → nth A i = nth B i) ∧ ∃ n, wr = w.drewN n) (fun i _ => A.length - (intOf i).toNat)
            case atStart => exact ⟨0, Nat.zero_le _, rfl, fun i hi => by omega, _, World.drewN_drewN _ _ _⟩
            case round =>
              obtain ⟨j, hj, rfl, hjt, n2, rfl⟩ := hrel
              by_cases hjl : j < A.length
              · have ha1 := HA.out j hjl
                have hb1 := HB.out j (by rw [← HL.out]; exact hjl)
                have hjb : j < B.length := by rw [← HL.out]; exact hjl
                by_cases he : nth A j = nth B j
                · have he1 : (nth A j != nth B j) = false := by simpa using he
                  have he' := Lib.hid he
                  clear he
                  go_wp2
                  go_quiet (fail)
                  go_wp2
                  go_roundw
                  case rel => exact ⟨j + 1, by omega, by go_num, fun i hi => by
                    by_cases e : i = j
                    · subst e; exact he'.out
                    · exact hjt i (by omega), _, rfl⟩
                  case measure => simp [intOf]; omega
                · have he1 : (nth A j != nth B j) = true := by simpa using he
                  have he' := Lib.hid he
                  clear he
                  go_wp2
                  go_quiet (fail)
                  go_wp2
                  go_ret
                  exact ⟨by rw [decide_eq_false (Hdiff.out (fun e => he'.out (by rw [e.1])))]; rfl, _, World.drewN_drewN _ _ _⟩
              · go_wp2
                go_roundw
                case rel => exact ⟨k + 1, by omega, by go_num, Hgo.out (list_eq_nth HL.out (fun i hi => hjt i (by omega))) HP.out, _, rfl⟩
                case measure => simp [intOf]; omega
        · have hL1 : ((A.length : Int) != (B.length : Int)) = true := by simp; omega
          have HL := Lib.hid hL
          clear hL hA hB
          go_wp2
          go_quiet (fail)
          go_wp2
          go_ret
          exact ⟨by rw [decide_eq_false (Hdiff.out (fun e => HL.out (by rw [e.1])))]; rfl, _, World.drewN_drewN _ _ _⟩
      · have hP1 : (P != R) = true := by simpa using hP
        have HP := Lib.hid hP
        clear hP hA hB
        go_wp2
        go_quiet (fail)
        go_wp2
        go_ret
        exact ⟨by rw [decide_eq_false (Hdiff.out (fun e => HP.out e.2))]; rfl, _, World.drewN_drewN _ _ _⟩
    · go_wp2
      go_ret
      exact ⟨by rw [decide_eq_true (ws_eq hl'.out (fun i hi => ht i (by omega)))]; rfl, _, rfl⟩

theorem same_any (u v : Value) (xs ys : List (List Int × Int)) (w : World) (hx : IsWaiters w u xs) (hy : IsWaiters w v ys) (hm : xs.length ≤ 9223372036854775807) (hsm : Small xs) :
    Calls Try.prog 8 #[u, v] w fun e w' => e = .returned (.bool (decide (xs = ys))) ∧ ∃ n, w' = w.drewN n := by
  obtain ⟨ao, c, rfl, hx⟩ := hx
  obtain ⟨ao', c', rfl, hy⟩ := hy
  by_cases hl : xs.length = ys.length
  · by_cases h0 : xs.length = 0
    · have e : xs = ys := by
        rw [List.eq_nil_of_length_eq_zero h0, List.eq_nil_of_length_eq_zero (by omega : ys.length = 0)]
      have h0' : ys.length = 0 := by omega
      rw [decide_eq_true e, h0, h0']
      clear hx hy hl hm e h0 h0' hsm
      go_enter Try.func8, Try.ntmps8
      go_wp2
      go_loopw [5, 6] (fun i _ wr => i = .int .i64 0 ∧ wr = w) (fun i _ _ => 0)
      case atStart => exact ⟨rfl, rfl⟩
      case round =>
        obtain ⟨rfl, rfl⟩ := hrel
        go_wp2
        go_ret
        exact ⟨rfl, 0, rfl⟩
    · rcases hx with h | ⟨b, off, rfl, hx⟩
      · exact absurd h h0
      rcases hy with h | ⟨b', off', rfl, hy⟩
      · omega
      exact same_loop b off c b' off' c' xs ys w hx hy hl hm hsm
  · have hne : ((xs.length : Int) != (ys.length : Int)) = true := by simp; omega
    rw [decide_eq_false (fun e => hl (by rw [e]))]
    clear hx hy hl
    go_enter Try.func8, Try.ntmps8
    go_wp2
    go_ret
    exact ⟨rfl, 0, rfl⟩
end Go.Proofs.Ytnammleaglmjaaa
