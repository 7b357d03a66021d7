/- The waiters that are told in the end: each round keeps them. No condition. -/
import Derived.Test.YtnammleaglmjaaaW10
namespace Go.Proofs.Ytnammleaglmjaaa
open Go.RowKit

/-- The cells of j waiters. -/
def outC (hv : Nat → Value) (f : Nat → List Int × Int) (j : Nat) : List Value := (List.range j).flatMap fun i => [hv i, .int .i64 (f i).2]
theorem outC_len (hv : Nat → Value) (f : Nat → List Int × Int) (j : Nat) : (outC hv f j).length = j * 2 := by
  induction j with
  | zero => rfl
  | succ j ih => simp [outC, List.range_succ] at ih ⊢; omega
theorem outC_succ (hv : Nat → Value) (f : Nat → List Int × Int) (j : Nat) : outC hv f (j + 1) = outC hv f j ++ [hv j, .int .i64 (f j).2] := by
  simp [outC, List.range_succ]
theorem outC_get (hv : Nat → Value) (f : Nat → List Int × Int) (j : Nat) : ∀ i, i < j → (outC hv f j)[i * 2]? = some (hv i) ∧ (outC hv f j)[i * 2 + 1]? = some (.int .i64 (f i).2) := by
  induction j with
  | zero => intro i hi; omega
  | succ j ih =>
    intro i hi
    rw [outC_succ]
    by_cases e : i = j
    · subst e
      rw [List.getElem?_append_right (by rw [outC_len]; omega), List.getElem?_append_right (by rw [outC_len]; omega), outC_len]
      simp
    · obtain ⟨h1, h2⟩ := ih i (by omega)
      rw [List.getElem?_append_left (by rw [outC_len]; omega), List.getElem?_append_left (by rw [outC_len]; omega)]
      exact ⟨h1, h2⟩
theorem outC_congr {hv hv' : Nat → Value} (f : Nat → List Int × Int) (j : Nat) (h : ∀ i, i < j → hv i = hv' i) : outC hv f j = outC hv' f j := by
  induction j with
  | zero => rfl
  | succ j ih => rw [outC_succ, outC_succ, ih (fun i hi => h i (by omega)), h j (by omega)]

structure OutI (W0 wi : World) (v : Value) (j : Nat) (hv : Nat → Value) (f : Nat → List Int × Int) : Prop where
  fr : Fr (fun q => W0.heap.size ≤ q) W0 wi
  row : wi.ownsRow W0.heap.size 43 2 v j (outC hv f j)
  ok : ∀ i, i < j → IsInts wi (hv i) (f i).1 ∧ (0 < (f i).1.length → ∀ q, (hv i).ownBlock = some q → v.ownBlock ≠ some q) ∧ From W0.heap.size (hv i)

theorem ints_lt {w : World} {v : Value} {xs : List Int} (h : IsInts w v xs) (h0 : 0 < xs.length) {q : Nat} (hq : v.ownBlock = some q) : q < w.heap.size := by
  obtain ⟨ao, c, rfl, hz | ⟨b, off, rfl, hc⟩⟩ := h
  · omega
  · simp [Value.ownBlock] at hq
    subst hq
    exact World.block_lt_of_cell? w _ (hc 0 h0)

theorem OutI.start (W0 : World) (f : Nat → List Int × Int) : OutI W0 W0 (.slice none 0 0) 0 (fun _ => undef) f := ⟨Fr.refl _ _, World.ownsRow_nil _ _ _ _, fun i hi => by omega⟩

theorem OutI.add {W0 wi wj w' : World} {v v' h : Value} {j : Nat} {hv : Nat → Value} {f : Nat → List Int × Int} (hO : OutI W0 wi v j hv f) (hb : Below wi.heap.size wi wj) (hi : IsInts wj h (f j).1) (hF : From wi.heap.size h) (o : Obj)
    (hr : w'.ownsRow W0.heap.size 43 2 v' (j + 1) (outC hv f j ++ [h, .int .i64 (f j).2])) (hg : (wj.alloc o).grownBy w' v.ownBlock) (hd : v'.ownBlock = v.ownBlock ∨ From (wj.alloc o).heap.size v') :
    OutI W0 w' v' (j + 1) (fun i => if i = j then h else hv i) f := by
  have hs1 := hO.fr.size
  have hs2 := hb.size
  have hF1 : Fr (fun q => v.ownBlock = some q) wj w' := ((Fr.refl _ wj).alloc o).grown hg (fun q hq _ => hq)
  have hvb : ∀ q, v.ownBlock = some q → W0.heap.size ≤ q ∧ q < wi.heap.size := fun q hq => hO.row.lt q hq
  refine ⟨?_, ?_, ?_⟩
  · refine (hO.fr.trans ((Fr.ofBelow (S := fun q => W0.heap.size ≤ q) hb))).trans ?_
    exact hF1.weaken (fun q _ hq => (hvb q hq).1)
  · rw [outC_succ, if_pos rfl, outC_congr (hv' := hv) f j (fun i hi => if_neg (by omega))]
    exact hr
  · intro i hij
    by_cases e : i = j
    · subst e
      rw [if_pos rfl]
      have hnv : ∀ q, h.ownBlock = some q → v.ownBlock ≠ some q := fun q hq e => by have := hF q hq; have := (hvb q e).2; omega
      refine ⟨hi.fr0 hF1 (fun _ q hq => hnv q hq), fun h0 q hq e => ?_, hF.mono hs1⟩
      rcases hd with hd | hd
      · exact hnv q hq (by rw [← hd]; exact e)
      · have h5 := hd q e
        have h6 := ints_lt hi h0 hq
        simp at h5
        omega
    · rw [if_neg e]
      obtain ⟨h1, h2, h4⟩ := hO.ok i (by omega)
      have h3 := h1.grow hb
      refine ⟨h3.fr0 hF1 (fun h0 q hq => h2 h0 q hq), fun h0 q hq e => ?_, h4⟩
      rcases hd with hd | hd
      · exact h2 h0 q hq (by rw [← hd]; exact e)
      · have h5 := hd q e
        have h6 := ints_lt h1 h0 hq
        simp at h5
        omega

theorem OutI.waiters {W0 wi w' : World} {v : Value} {n : Nat} {hv : Nat → Value} {f : Nat → List Int × Int} {S : Nat → Prop} (h : OutI W0 wi v n hv f) (hf : Fr S wi w') (hS : ∀ q, S q → q < W0.heap.size) : IsWaiters w' v ((List.range n).map f) := by
  have hl : ((List.range n).map f).length = n := by simp
  have hrow := owns_fr h.row hf (fun q hq hs => by have := hS q hs; have := (h.row.lt q hq).1; omega)
  rcases id hrow with ⟨_, ⟨rfl, h0⟩ | ⟨g, cap, cur, rfl, hr⟩⟩
  · exact ⟨none, 0, by rw [hl, h0], .inl (by rw [hl, h0])⟩
  · refine ⟨_, cap, by rw [hl], .inr ⟨g, 0, rfl, fun i hi => ?_⟩⟩
    rw [hl] at hi
    obtain ⟨g1, g2⟩ := outC_get hv f n i hi
    have c1 := hrow.cellAt (i * 2) (by omega)
    have c2 := hrow.cellAt (i * 2 + 1) (by omega)
    have hfi : ((List.range n).map f).getD i ([], 0) = f i := by simp [List.getD, hi]
    rw [hfi, Nat.zero_add]
    obtain ⟨o1, _, o3⟩ := h.ok i hi
    exact ⟨hv i, c1.trans g1, o1.fr0 hf (fun _ q hq hs => by have := hS q hs; have := o3 q hq; omega), c2.trans g2⟩

theorem IsInts.take {w : World} {ao : Option Addr} {c : Nat} {xs : List Int} (h : IsInts w (.slice ao xs.length c) xs) (k : Nat) (hk : k ≤ xs.length) : IsInts w (.slice ao k c) (xs.take k) := by
  obtain ⟨ao1, c1, e, hz | ⟨b, off, e1, hc⟩⟩ := h
  · exact ⟨ao, c, by rw [List.length_take, Nat.min_eq_left hk], .inl (by rw [List.length_take]; omega)⟩
  · injection e with e2 _ e3
    subst e2 e1
    refine ⟨_, c, by rw [List.length_take, Nat.min_eq_left hk], .inr ⟨b, off, rfl, fun i hi => ?_⟩⟩
    rw [List.length_take] at hi
    rw [hc i (by omega)]
    have : nth (xs.take k) i = nth xs i := by simp [nth, List.getD, List.getElem?_take, show i < k by omega]
    rw [this]

/-- A waiter's two cells in a new block. -/
theorem two_new (w : World) (h : Value) (p : Int) {g : Nat} (hg : g = w.heap.size) : ∀ (j : Nat) (u : Value), ([h, .int .i64 p] : List Value)[j]? = some u → (w.alloc (.cells #[h, .int .i64 p] 43)).cell? ((⟨g, 0, none⟩ : Addr).add j) = some u := by
  intro j u hj
  have hadd : (⟨g, 0, none⟩ : Addr).add j = ⟨g, j, none⟩ := by unfold Addr.add; split <;> simp_all
  rw [hadd]
  exact new_cell hg (by simpa using hj)
end Go.Proofs.Ytnammleaglmjaaa
