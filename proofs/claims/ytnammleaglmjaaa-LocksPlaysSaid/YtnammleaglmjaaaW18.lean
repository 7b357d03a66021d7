/- The reference plays as the plain words say. Conditions: at most 1000 jobs, sections and picks. -/
import Derived.Test.YtnammleaglmjaaaW17
namespace Go.Proofs.Ytnammleaglmjaaa
open Go.RowKit

theorem rplay_any (n : Int) (jsv pv : Value) (js : List (List (Int × Int))) (ord : Bool) (ps : List Int) (w : World) (h : Args w jsv pv js ps) :
    Calls Try.prog 6 #[.int .i64 n, jsv, .bool ord, pv] w (Plays w (playM n js ord ps)) := by
  obtain ⟨hj, hp, hl, hc, hs⟩ := h
  have hj0 := hj
  obtain ⟨aj, c, rfl, hj⟩ := hj
  have hp0 := hp
  obtain ⟨ao, c2, rfl, _⟩ := hp
  by_cases hn : n < 0 ∨ 65 < n
  · have hm : playM n js ord ps = ⟨[], [], [], 1⟩ := by unfold playM; simp [newM, hn]
    rw [hm]
    exact rplay_bad n aj c ao c2 js.length ps.length ord w hn
  · obtain ⟨k, rfl⟩ := Int.eq_ofNat_of_zero_le (show 0 ≤ n by omega)
    have hnew : newM (k : Int) = (List.replicate k (-1), 0) := by simp [newM]; omega
    by_cases hjl : 64 < js.length
    · have hm : playM k js ord ps = ⟨[], [], [], 2⟩ := by unfold playM; rw [hnew, if_neg (by simp), if_pos (.inl hjl)]
      rw [hm]
      exact rplay_long k aj c ao c2 js.length ps.length ord w (by omega) hjl
    · have hex : ∃ jv : Nat → Value, ∀ i, i < js.length → IsJob w (jv i) (jobAt js i) ∧ ∃ b off, aj = some ⟨b, off, none⟩ ∧ w.cell? ⟨b, off + i, none⟩ = some (jv i) := by
        rcases hj with h0 | ⟨b, off, e, hj⟩
        · exact ⟨fun _ => undef, fun i hi => by omega⟩
        · refine ⟨fun i => (w.cell? ⟨b, off + i, none⟩).getD undef, fun i hi => ?_⟩
          obtain ⟨jv, h1, h2⟩ := hj i hi
          simp only [h1, Option.getD_some]
          exact ⟨h2, b, off, e, h1⟩
      obtain ⟨jv, hjv⟩ := hex
      cases hr : rightM k js with
      | false =>
        have hm : playM k js ord ps = ⟨[], [], [], 1⟩ := by unfold playM; rw [hnew, if_neg (by simp), if_neg (by omega), if_pos hr]
        rw [hm]
        exact rplay_wrong k aj c ao c2 js ps.length ord w (by omega) (by omega) hs jv (fun i hi => (hjv i hi).1) (fun i hi => (hjv i hi).2) hr hc
      | true =>
        exact rplay_main k aj c ao c2 js ord ps w (by omega) (by omega) hs jv (fun i hi => (hjv i hi).1) (fun i hi => (hjv i hi).2) hr hc hp0
end Go.Proofs.Ytnammleaglmjaaa
