/- A map of numbers by numbers that a call has made, told by a function. No condition. -/
import Derived.WalkKit
import Derived.Maps.OwnSet
import Derived.Test.YtnammleaglmjaaaV
namespace Go.Proofs.Ytnammleaglmjaaa
open Go.RowKit Go.Maps

/-- Block b is a map of at most n entries, with what f says. -/
def IM (P : Program) (e : TypeId) (w : World) (b n : Nat) (f : Int → Option Int) : Prop :=
  ∃ D : DataW Unit, w.ownsMap P e (plainElem P e) b n D ∧ IsMap D ∧ ∀ k, (Lit.int .i64 k).wf = true →
    has D (.int .i64 k) = (f k).isSome ∧ D.atKey (.int .i64 k) (.lit (.int .i64 0)) = .lit (.int .i64 ((f k).getD 0))

theorem IM.made (P : Program) (e : TypeId) (w : World) : IM P e (w.alloc (.map #[] 0)) w.heap.size 0 (fun _ => none) :=
  ⟨.map [], World.ownsMap_made w P e _, isMap_empty, fun k hk => ⟨rfl, rfl⟩⟩

theorem IM.lt {P : Program} {e : TypeId} {w : World} {b n : Nat} {f : Int → Option Int} (h : IM P e w b n f) : b < w.heap.size := by
  obtain ⟨D, h, _⟩ := h; exact h.lt

theorem IM.fr {P : Program} {e : TypeId} {w w' : World} {b n : Nat} {f : Int → Option Int} {S : Nat → Prop} (h : IM P e w b n f) (hf : Fr S w w') (hs : ¬ S b) : IM P e w' b n f := by
  obtain ⟨D, ⟨es, clock, hb, r⟩, r2⟩ := h
  exact ⟨D, ⟨es, clock, (hf.block b (Array.getElem?_eq_some_iff.1 hb).1 hs).trans hb, r⟩, r2⟩

theorem IM.ext {P : Program} {e : TypeId} {w : World} {b n : Nat} {f g : Int → Option Int} (h : IM P e w b n f) (hg : ∀ k, f k = g k) : IM P e w b n g := by
  have : f = g := funext hg
  rwa [← this]

section
variable {P : Program} {ops : Array Oper} {rest : List Oper} {o : Oper} {a : Act} {Q : Exit → Act → World → Prop} (w : World)

/-- 'x, ok := m[k]'. -/
theorem wpList_look_im (hg : o.guard = none) (m x : Operand) (t e : TypeId) (hop : o.op = Op.lookup t m x true) (ht : P.underlying t = some (.map e e)) (he : P.underlying e = some (.int .i64)) (hz : (zeroValue e).run P w = .ok (.int .i64 0) w)
    (b n : Nat) (f : Int → Option Int) (hm : a.eval m = .map (some b)) (hown : IM P e w b n f) (k : Int) (hx : a.eval x = .int .i64 k) (hk : (Lit.int .i64 k).wf = true)
    (hK : wpList P ops Q rest (a.put o.dst (.tuple #[.int .i64 ((f k).getD 0), .bool (f k).isSome])) w) : wpList P ops Q (o :: rest) a w := by
  obtain ⟨D, hD, hI, hf⟩ := hown
  refine wpList_lookup_own_ok_int w hg m x t hop e e .i64 (int_keyed he) ht he hz b n D hm hD _ _ hx (keyOf_int_mk he hk) ?_
  intro c hc _
  obtain ⟨h1, h2⟩ := hf k hk
  rw [h2] at hc
  have : c = (f k).getD 0 := by simpa using hc.symm
  rw [h1, this]
  exact hK

/-- 'm[k] = v'. -/
theorem wpList_put_im (hg : o.guard = none) (m x v : Operand) (t e : TypeId) (hop : o.op = Op.mapUpdate t m x v) (ht : P.underlying t = some (.map e e)) (he : P.underlying e = some (.int .i64))
    (b n : Nat) (f : Int → Option Int) (hm : a.eval m = .map (some b)) (hown : IM P e w b n f) (hn : n < maxLen) (k u : Int) (hx : a.eval x = .int .i64 k) (hv : a.eval v = .int .i64 u) (hk : (Lit.int .i64 k).wf = true) (hu : (Lit.int .i64 u).wf = true)
    (hK : ∀ w', IM P e w' b (n + 1) (fun j => if j = k then some u else f j) → w.grownBy w' (some b) → wpList P ops Q rest (a.put o.dst undef) w') : wpList P ops Q (o :: rest) a w := by
  obtain ⟨D, hD, hI, hf⟩ := hown
  refine wpList_mapUpdate_own w hg m x v t hop e e (int_keyed he) ht (plainElem P e) b n D hm hD hn _ _ (.int .i64 k) hx hv (keyOf_int_mk he hk) (.lit (.int .i64 u)) [] (plainElem_int he hu) ?_
  intro w' hown' hgr
  refine hK w' ⟨_, hown', hI.put _ _, fun j hj => ?_⟩ hgr
  by_cases e1 : j = k
  · subst e1
    rw [has_put_same hI (by trivial), atKey_put_same hI (by trivial)]
    simp
  · have hne : (Lit.int .i64 j) ≠ .int .i64 k := fun h => e1 (by injection h)
    rw [has_put_other hne, atKey_put_other hne]
    simp only [if_neg e1]
    exact hf j hj

/-- 'delete(m, k)'. -/
theorem wpList_del_im (hg : o.guard = none) (m x : Operand) (t e : TypeId) (hop : o.op = Op.call { callee := Callee.builtin Builtin.delete, args := #[m, x], argTypes := #[t, e] }) (ht : P.underlying t = some (.map e e)) (he : P.underlying e = some (.int .i64))
    (b n : Nat) (f : Int → Option Int) (hm : a.eval m = .map (some b)) (hown : IM P e w b n f) (k : Int) (hx : a.eval x = .int .i64 k) (hk : (Lit.int .i64 k).wf = true)
    (hK : ∀ w', IM P e w' b n (fun j => if j = k then none else f j) → w.grownBy w' (some b) → wpList P ops Q rest (a.put o.dst (.tuple #[])) w') : wpList P ops Q (o :: rest) a w := by
  obtain ⟨D, hD, hI, hf⟩ := hown
  refine wpList_delete_own w hg m x t e hop e (int_keyed he) ht (plainElem P e) b n D hm hD _ (.int .i64 k) hx (keyOf_int_mk he hk) ?_
  intro w' hown' htu
  refine hK w' ⟨_, hown', hI.del _, fun j hj => ?_⟩ htu.grown
  by_cases e1 : j = k
  · subst e1
    rw [has_del_same, atKey_del_same]
    simp
  · have hne : (Lit.int .i64 j) ≠ .int .i64 k := fun h => e1 (by injection h)
    rw [has_del_other hne, atKey_del_other hne]
    simp only [if_neg e1]
    exact hf j hj
end
end Go.Proofs.Ytnammleaglmjaaa
