/- The law, whole: it answers yes. Condition: lengths as slices have them. -/
import Derived.Test.YtnammleaglmjaaaW18
import Derived.Test.YtnammleaglmjaaaW19
namespace Go.Proofs.Ytnammleaglmjaaa
open Go.RowKit

theorem play_small (n : Int) (js : List (List (Int × Int))) (ord : Bool) (ps : List Int) :
    (playM n js ord ps).own.length ≤ 65 ∧ (playM n js ord ps).ws.length ≤ js.length ∧ Small (playM n js ord ps).ws ∧ (playM n js ord ps).dn.length ≤ ps.length := by
  unfold playM
  split
  · exact ⟨by simp, by simp, fun i hi => by simp at hi, by simp⟩
  · split
    · exact ⟨by simp, by simp, fun i hi => by simp at hi, by simp⟩
    · split
      · exact ⟨by simp, by simp, fun i hi => by simp at hi, by simp⟩
      · have h := sInv_run js ord n ps ps.length (Nat.le_refl _)
        rw [List.take_length] at h
        refine ⟨h.own, by simp [waitsM], fun i hi => ?_, h.dn⟩
        have hi : i < js.length := by simpa [waitsM] using hi
        simp only [wth, waitsM, List.getD, List.getElem?_map, List.getElem?_range hi, Option.map_some, Option.getD_some]
        unfold waitM
        split
        · have := (secM_len ((jobAt js i).getD ((runM js ord (startM n) ps).at_ i) (0, 0)).1 ((jobAt js i).getD ((runM js ord (startM n) ps).at_ i) (0, 0)).2 ord).2
          have e : secAt js ord (runM js ord (startM n) ps) i = secM ((jobAt js i).getD ((runM js ord (startM n) ps).at_ i) (0, 0)).1 ((jobAt js i).getD ((runM js ord (startM n) ps).at_ i) (0, 0)).2 ord := rfl
          rw [e]
          simp only [List.length_take]
          omega
        · simp


theorem IsWaiters.grow {w w' : World} {v : Value} {ws : List (List Int × Int)} (h : IsWaiters w v ws) (hb : Below w.heap.size w w') : IsWaiters w' v ws := by
  obtain ⟨ao, c, rfl, h | ⟨b, off, rfl, h⟩⟩ := h
  · exact ⟨ao, c, rfl, .inl h⟩
  · exact ⟨_, c, rfl, .inr ⟨b, off, rfl, WCells.grow h hb⟩⟩

set_option maxHeartbeats 3200000 in
theorem law_any (n : Int) (jsv pv : Value) (js : List (List (Int × Int))) (ord : Bool) (ps : List Int) (w : World) (hj : IsJobs w jsv js) (hp : IsInts w pv ps) (hl : js.length ≤ 140737488351232) (hlj : ∀ i, i < js.length → (jobAt js i).length ≤ 140737488351232) (hlp : ps.length ≤ 140737488351232) :
    Calls Try.prog 3 #[.agg #[.int .i64 n, jsv, .bool ord, pv]] w fun e w' => e = .returned (.bool true) ∧ Below w.heap.size w w' := by
  have Hj := Lib.hid hj
  have Hp := Lib.hid hp
  obtain ⟨aj, c, rfl, hjc⟩ := hj
  obtain ⟨ap, c2, rfl, _⟩ := hp
  have Hjc := Lib.hid hjc
  clear hjc
  go_enter Try.func3, Try.ntmps3
  go_wp2_with fail
  go_loop [3, 4] (fun s i => ∃ k : Nat, k ≤ js.length ∧ i = .int .i64 k ∧ s = .int .i64 ((cnt js k + k : Nat) : Int) ∧ cnt js k + k ≤ 201 + 140737488351232) (fun _ i => js.length - (intOf i).toNat)
  case atStart => exact ⟨0, Nat.zero_le _, rfl, rfl, by simp [cnt]⟩
  case round =>
    obtain ⟨k, hk, rfl, rfl, hs⟩ := hrel
    obtain ⟨N, eN⟩ : ∃ N, N = cnt js k + k := ⟨_, rfl⟩
    rw [← eN] at hs ⊢
    have EN := Lib.hid eN
    clear eN
    by_cases h2 : N ≤ 200
    · by_cases hlt : k < js.length
      · have hcs := cnt_succ js k hlt
        have hlk := hlj k hlt
        obtain ⟨l, el⟩ : ∃ l, l = jobAt js k := ⟨_, rfl⟩
        rcases Hjc.out with h0 | ⟨b, off, rfl, hjj⟩
        · omega
        obtain ⟨jv, h1, hjv⟩ := hjj k hlt
        change IsJob w jv (jobAt js k) at hjv
        change cnt js (k + 1) = cnt js k + (jobAt js k).length at hcs
        rw [← el] at hlk hcs hjv
        obtain ⟨aoj, cj, rfl, _⟩ := hjv.form
        have hcell := alloc_cell h1 (.cells #[.int .i64 n, .slice (some ⟨b, off, none⟩) js.length c, .bool ord, .slice ap ps.length c2] 25)
        have Hcs := Lib.hid hcs
        clear hjj hjv h1 el hcs
        go_wp2_with fail
        go_round
        case rel => exact ⟨k + 1, by omega, by go_num, by rw [Hcs.out]; have := EN.out; go_num, by rw [Hcs.out]; have := EN.out; omega⟩
        case measure => simp [intOf]; omega
      · obtain rfl : k = js.length := by omega
        by_cases h4 : 400 < ps.length
        · go_wp2_with fail
          refine (awake_any _).mono ?_
          rintro e w1 ⟨rfl, hb⟩
          go_wp2_with fail
          go_ret
          exact ⟨rfl, ((Below.refl _ _).alloc (Nat.le_refl _) _).trans (hb.mono (by simp))⟩
        · have hA : ∀ wx, Below w.heap.size w wx → Args wx (.slice aj js.length c) (.slice ap ps.length c2) js ps := fun wx hx => by
            have := EN.out
            exact ⟨Hj.out.grow hx, Hp.out.grow hx, by omega, by omega, by omega⟩
          have HA := Lib.hid hA
          obtain ⟨r, er⟩ : ∃ r, r = playM n js ord ps := ⟨_, rfl⟩
          obtain ⟨ho, hws, hsm, hdn⟩ := play_small n js ord ps
          rw [← er] at ho hws hsm hdn
          have Er := Lib.hid er
          have Hsm := Lib.hid hsm
          clear hA er hsm
          go_wp2_with fail
          refine (play_any n _ _ js ord ps _ (HA.out _ ((Below.refl _ _).alloc (Nat.le_refl _) _))).mono ?_
          rw [← Er.out]
          rintro e w2 ⟨lv, wv, dv, rfl, hl1, hw1, hd1, hb1⟩
          obtain ⟨lo, lc, rfl, _⟩ := id hl1
          obtain ⟨wo, wc, rfl, _⟩ := id hw1
          obtain ⟨dd, dc, rfl, _⟩ := id hd1
          have Hl1 := Lib.hid hl1
          have Hw1 := Lib.hid hw1
          have Hd1 := Lib.hid hd1
          clear hl1 hw1 hd1
          have hs2 := hb1.size
          have k0 : w2.cell? ⟨w.heap.size, 0, none⟩ = some (.int .i64 n) := new_kept_cell hb1 rfl
          have k1 : w2.cell? ⟨w.heap.size, 1, none⟩ = some (.slice aj js.length c) := new_kept_cell hb1 rfl
          have k2 : w2.cell? ⟨w.heap.size, 2, none⟩ = some (.bool ord) := new_kept_cell hb1 rfl
          have k3 : w2.cell? ⟨w.heap.size, 3, none⟩ = some (.slice ap ps.length c2) := new_kept_cell hb1 rfl
          have hB2 : Below w.heap.size w w2 := ((Below.refl _ _).alloc (Nat.le_refl _) _).trans (hb1.mono (by simp))
          simp only [World.size_alloc] at hs2
          have k0 := alloc_cell k0 (.cells #[.slice lo r.own.length lc] 29)
          have k1 := alloc_cell k1 (.cells #[.slice lo r.own.length lc] 29)
          have k2 := alloc_cell k2 (.cells #[.slice lo r.own.length lc] 29)
          have k3 := alloc_cell k3 (.cells #[.slice lo r.own.length lc] 29)
          clear hb1
          go_wp2_with fail
          refine (rplay_any n _ _ js ord ps _ (HA.out _ (hB2.alloc (by omega) _))).mono ?_
          rw [← Er.out]
          rintro e w3 ⟨lv, wv, dv, rfl, hl2, hw2, hd2, hb2⟩
          obtain ⟨lo2, lc2, rfl, _⟩ := id hl2
          obtain ⟨wo2, wc2, rfl, _⟩ := id hw2
          obtain ⟨dd2, dc2, rfl, _⟩ := id hd2
          have Hl2 := Lib.hid hl2
          have Hw2 := Lib.hid hw2
          have Hd2 := Lib.hid hd2
          clear hl2 hw2 hd2 k0 k1 k2 k3
          have hs3 := hb2.size
          have m0 : w3.cell? ⟨w2.heap.size, 0, none⟩ = some (.slice lo r.own.length lc) := new_kept_cell hb2 rfl
          have hB3 : Below w2.heap.size w2 w3 := ((Below.refl _ _).alloc (Nat.le_refl _) _).trans (hb2.mono (by simp))
          simp only [World.size_alloc] at hs3
          clear hb2
          go_wp2_with fail
          refine (awake_any _).mono ?_
          rintro e w4 ⟨rfl, hb4⟩
          have hB4 : Below w3.heap.size w3 w4 := ((Below.refl _ _).alloc (Nat.le_refl _) _).trans (hb4.mono (by simp))
          have m1 : w4.cell? ⟨w2.heap.size, 0, none⟩ = some (.slice lo r.own.length lc) := (hB4.cell (p := ⟨w2.heap.size, 0, none⟩) (by simp only; omega)).trans m0
          have m2 : w4.cell? ⟨w3.heap.size, 0, none⟩ = some (.slice lo2 r.own.length lc2) := new_kept_cell hb4 rfl
          have hs4 := hB4.size
          clear m0 hb4
          go_wp2_with fail
          refine (ints_any _ _ r.own r.own _ (Hl1.out.grow (hB3.trans (hB4.mono hB3.size))) (Hl2.out.grow hB4) (by omega)).mono ?_
          rintro e w5 ⟨rfl, n5, rfl⟩
          rw [decide_eq_true rfl]
          have hB24 : Below w2.heap.size w2 (w4.drewN n5) := (hB3.trans (hB4.mono hB3.size)).trans (drewN_below _ _ _)
          have hB34 : Below w3.heap.size w3 (w4.drewN n5) := hB4.trans (drewN_below _ _ _)
          clear m1 m2
          go_wp2_with fail
          refine (same_any _ _ r.ws r.ws _ (Hw1.out.grow hB24) (Hw2.out.grow hB34) (by omega) Hsm.out).mono ?_
          rintro e w6 ⟨rfl, n6, rfl⟩
          rw [decide_eq_true rfl]
          have hB25 : Below w2.heap.size w2 (w4.drewN (n5 + n6)) := (hB3.trans (hB4.mono hB3.size)).trans (drewN_below _ _ _)
          have hB35 : Below w3.heap.size w3 (w4.drewN (n5 + n6)) := hB4.trans (drewN_below _ _ _)
          go_wp2_with fail
          refine (ints_any _ _ r.dn r.dn _ (Hd1.out.grow hB25) (Hd2.out.grow hB35) (by omega)).mono ?_
          rintro e w7 ⟨rfl, n7, rfl⟩
          rw [decide_eq_true rfl]
          go_wp2_with fail
          go_ret
          refine ⟨by simp, ?_⟩
          exact hB2.trans (((hB3.trans (hB4.mono hB3.size)).trans (drewN_below _ _ _)).mono (by omega))
    · go_wp2_with fail
      all_goals
        refine (awake_any _).mono ?_
        rintro e w1 ⟨rfl, hb⟩
        go_wp2_with fail
        go_ret
        exact ⟨rfl, ((Below.refl _ _).alloc (Nat.le_refl _) _).trans (hb.mono (by simp))⟩
end Go.Proofs.Ytnammleaglmjaaa
