/- What lies in memory while the reference plays: each step keeps it. No condition. -/
import Derived.Test.YtnammleaglmjaaaW11
import Derived.Test.YtnammleaglmjaaaW12
import Derived.Deep.RegionLaw
namespace Go.Proofs.Ytnammleaglmjaaa
open Go.RowKit

section
variable {P : Program} (w : World)
/-- The append law as one step of a region that draws. -/
theorem step_append_own2 {ops : Array Oper} {o : Oper} {a : Act} {K : Act → World → Prop} {Q : Exit → Act → World → Prop} {E : Prop} (hgd : o.guard = none) (s x : Operand) (t : TypeId)
    (ho : o.op = .call { callee := .builtin .append, args := #[s, x], argTypes := #[t, t] })
    (base : Nat) (e : TypeId) (i : TypeInfo) (z : Value) (size bytes : Nat) (ht : P.underlying t = some (.slice e)) (hi : P.info? e = some i) (hz : i.zero = some z)
    (hsize : i.size = size) (hby : i.bytes = bytes) (hzs : z.cells.size = size) (hsz : 0 < size)
    (v : Value) (n : Nat) (xs : List Value) (hs : a.eval s = v) (hown : w.ownsRow base e size v n xs)
    (ad : Addr) (m c : Nat) (news : List Value) (hx : a.eval x = .slice (some ad) m c) (hl : news.length = m * size) (hnews : ∀ j u, news[j]? = some u → w.cell? (ad.add j) = some u) (h1 : ∀ u ∈ news, u.oneCell' = true)
    (h63 : n + m ≤ maxLen) (hbytes : (n + m) * bytes ≤ 140737488355328) (hbase : base ≤ w.heap.size)
    (h : ∀ v' w', w'.ownsRow base e size v' (n + m) (xs ++ news) → w.grownBy w' v.ownBlock → (v'.ownBlock = v.ownBlock ∨ From w.heap.size v') → K (a.put o.dst v') w') :
    if Region.wanted o (yielded ops a.tmps) = true then Oper.wp P o a w K Q else E := by
  have hw : Region.wanted o (yielded ops a.tmps) = true := by simp [Region.wanted, hgd]
  rw [if_pos hw]
  obtain ⟨v', w', hr, h2, h3, h4⟩ := run_append_own2 (P := P) w base t o.type e i z size bytes ht hi hz hsize hby hzs hsz v n xs hown ad m c news hl hnews h1 h63 hbytes hbase
  unfold Oper.wp
  simp [execOp, ho, resolve, invoke, builtin, hs, hx, hr, Result.andThen]
  exact h v' w' h2 h3 h4
end

/-- A list of numbers by a function. -/
def numL (f : Nat → Nat) (n : Nat) : List Value := (List.range n).map fun k => .int .i64 (f k : Int)
theorem numL_get (f : Nat → Nat) {n k : Nat} (h : k < n) : (numL f n)[k]? = some (.int .i64 (f k : Int)) := by
  unfold numL; rw [List.getElem?_map, List.getElem?_range h]; rfl
theorem numL_set (f : Nat → Nat) {n k : Nat} (v : Nat) (h : k < n) : (numL f n).set k (.int .i64 (v : Int)) = numL (upd f k v) n := by
  apply List.ext_getElem?
  intro i
  rw [List.getElem?_set]
  by_cases hi : i < n
  · rw [numL_get _ hi]
    by_cases e : k = i
    · subst e; simp [numL, upd, h]
    · rw [if_neg e, numL_get _ hi]; unfold upd; rw [if_neg (fun e' => e e'.symm)]
  · have : ∀ g, (numL g n)[i]? = none := fun g => List.getElem?_eq_none (by simp [numL]; omega)
    rw [this, this]
    by_cases e : k = i
    · subst e; omega
    · rw [if_neg e]

/-- What lies in memory behind some picks. -/
structure RI (w wr : World) (Lb Tb Hb n : Nat) (st : St) (dv : Value) : Prop where
  below : Below w.heap.size w wr
  o1 : w.heap.size < Lb
  o2 : Lb < Tb
  o3 : Tb < Hb
  res : wr.cell? ⟨w.heap.size, 0, none⟩ = some (.slice none 0 0)
  resf : wr.frozen? ⟨w.heap.size, 0, none⟩ = false
  lv : ∃ ao c, wr.cell? ⟨Lb, 0, none⟩ = some (.slice ao st.own.length c) ∧ IsInts wr (.slice ao st.own.length c) st.own ∧
    (0 < st.own.length → ∀ q, (Value.slice ao st.own.length c).ownBlock = some q → q ≠ w.heap.size ∧ q ≠ Lb ∧ q ≠ Tb ∧ q ≠ Hb ∧ dv.ownBlock ≠ some q)
  lf : wr.frozen? ⟨Lb, 0, none⟩ = false
  at_ : wr.ownsRow Tb 3 1 (.slice (some ⟨Tb, 0, none⟩) n n) n (numL st.at_ n)
  has : wr.ownsRow Hb 3 1 (.slice (some ⟨Hb, 0, none⟩) n n) n (numL st.has n)
  done : wr.ownsRow (Hb + 1) 3 1 dv st.dn.length (st.dn.map (Value.int .i64))

theorem RI.lt {w wr : World} {Lb Tb Hb n : Nat} {st : St} {dv : Value} (h : RI w wr Lb Tb Hb n st dv) : Hb < wr.heap.size := (h.has.lt Hb rfl).2

theorem RI.fr {w wr w1 : World} {Lb Tb Hb n : Nat} {st : St} {dv : Value} {S : Nat → Prop} (h : RI w wr Lb Tb Hb n st dv) (hf : Fr S wr w1) (hS : ∀ q, S q → wr.heap.size ≤ q) : RI w w1 Lb Tb Hb n st dv := by
  have hlt := h.lt
  have o1 := h.o1
  have o2 := h.o2
  have o3 := h.o3
  have hn : ∀ q, q < wr.heap.size → ¬ S q := fun q hq hs => by have := hS q hs; omega
  obtain ⟨ao, c, h1, h2, h3⟩ := h.lv
  refine ⟨h.below.trans (hf.below h.below.size (fun q hq => by have := hS q hq; have := h.below.size; omega)), o1, o2, o3, hf.cell h.res (hn _ (by simp only; omega)), (hf.frozen (by simp only; omega) (hn _ (by simp only; omega))).trans h.resf,
    ⟨ao, c, hf.cell h1 (hn _ (by simp only; omega)), ?_, h3⟩, (hf.frozen (by simp only; omega) (hn _ (by simp only; omega))).trans h.lf, owns_fr h.at_ hf (fun q hq => hn q (h.at_.lt q hq).2), owns_fr h.has hf (fun q hq => hn q (h.has.lt q hq).2), owns_fr h.done hf (fun q hq => hn q (h.done.lt q hq).2)⟩
  exact h2.grow (hf.below (Nat.le_refl _) hS)

theorem RI.grow {w wr w1 : World} {Lb Tb Hb n : Nat} {st : St} {dv : Value} (h : RI w wr Lb Tb Hb n st dv) (hb : Below wr.heap.size wr w1) : RI w w1 Lb Tb Hb n st dv :=
  h.fr (S := fun _ => False) (Fr.ofBelow hb) (fun _ h => h.elim)

theorem RI.setL {w wr : World} {Lb Tb Hb n : Nat} {st : St} {dv : Value} (h : RI w wr Lb Tb Hb n st dv) {own : List Int} {ao : Option Addr} {c : Nat}
    (hi : IsInts wr (.slice ao own.length c) own) (hd : 0 < own.length → ∀ q, (Value.slice ao own.length c).ownBlock = some q → q ≠ w.heap.size ∧ q ≠ Lb ∧ q ≠ Tb ∧ q ≠ Hb ∧ dv.ownBlock ≠ some q) :
    RI w (wr.setCell ⟨Lb, 0, none⟩ (.slice ao own.length c)) Lb Tb Hb n { st with own := own } dv := by
  have hlt := h.lt
  have o1 := h.o1
  have o2 := h.o2
  have o3 := h.o3
  have hf : Fr (· = Lb) wr (wr.setCell ⟨Lb, 0, none⟩ (.slice ao own.length c)) := Fr.setCell (S := (· = Lb)) (Fr.refl _ _) (fun _ => rfl) _
  obtain ⟨ao0, c0, h1, _, _⟩ := h.lv
  refine ⟨h.below.setCell (by simp only; omega) _, o1, o2, o3, ?_, ?_, ⟨ao, c, World.cell?_setCell_same _ _ _ h1, hi.fr0 hf (fun h0 q hq e => (hd h0 q hq).2.1 e), hd⟩, ?_, ?_, ?_, ?_⟩
  · rw [World.cell?_setCell_other _ _ _ _ (by intro e; injection e with e; omega)]; exact h.res
  · rw [World.frozen?_setCell]; exact h.resf
  · rw [World.frozen?_setCell]; exact h.lf
  · exact owns_fr h.at_ hf (fun q hq e => by simp [Value.ownBlock] at hq; omega)
  · exact owns_fr h.has hf (fun q hq e => by simp [Value.ownBlock] at hq; omega)
  · exact owns_fr h.done hf (fun q hq e => by have := (h.done.lt q hq).1; omega)

theorem RI.setT {w wr : World} {Lb Tb Hb n : Nat} {st : St} {dv : Value} (h : RI w wr Lb Tb Hb n st dv) (k v : Nat) (u : Int) (hu : u = (v : Int)) (hk : k < n) : RI w (wr.setCell ⟨Tb, k, none⟩ (.int .i64 u)) Lb Tb Hb n { st with at_ := upd st.at_ k v } dv := by
  subst hu
  have hlt := h.lt
  have o1 := h.o1
  have o2 := h.o2
  have o3 := h.o3
  have hf : Fr (· = Tb) wr (wr.setCell ⟨Tb, k, none⟩ (.int .i64 (v : Int))) := Fr.setCell (S := (· = Tb)) (Fr.refl _ _) (fun _ => rfl) _
  obtain ⟨ao, c, h1, h2, h3⟩ := h.lv
  refine ⟨h.below.setCell (by simp only; omega) _, o1, o2, o3, ?_, ?_, ⟨ao, c, ?_, h2.fr0 hf (fun h0 q hq e => (h3 h0 q hq).2.2.1 e), h3⟩, ?_, ?_, ?_, ?_⟩
  · rw [World.cell?_setCell_other _ _ _ _ (by intro e; injection e with e; omega)]; exact h.res
  · rw [World.frozen?_setCell]; exact h.resf
  · rw [World.cell?_setCell_other _ _ _ _ (by intro e; injection e with e; omega)]; exact h1
  · rw [World.frozen?_setCell]; exact h.lf
  · have := (h.at_.stored k (.int .i64 (v : Int))).1
    rw [numL_set _ _ hk] at this
    exact this
  · exact owns_fr h.has hf (fun q hq e => by simp [Value.ownBlock] at hq; omega)
  · exact owns_fr h.done hf (fun q hq e => by have := (h.done.lt q hq).1; omega)

theorem RI.setH {w wr : World} {Lb Tb Hb n : Nat} {st : St} {dv : Value} (h : RI w wr Lb Tb Hb n st dv) (k v : Nat) (u : Int) (hu : u = (v : Int)) (hk : k < n) : RI w (wr.setCell ⟨Hb, k, none⟩ (.int .i64 u)) Lb Tb Hb n { st with has := upd st.has k v } dv := by
  subst hu
  have hlt := h.lt
  have o1 := h.o1
  have o2 := h.o2
  have o3 := h.o3
  have hf : Fr (· = Hb) wr (wr.setCell ⟨Hb, k, none⟩ (.int .i64 (v : Int))) := Fr.setCell (S := (· = Hb)) (Fr.refl _ _) (fun _ => rfl) _
  obtain ⟨ao, c, h1, h2, h3⟩ := h.lv
  refine ⟨h.below.setCell (by simp only; omega) _, o1, o2, o3, ?_, ?_, ⟨ao, c, ?_, h2.fr0 hf (fun h0 q hq e => (h3 h0 q hq).2.2.2.1 e), h3⟩, ?_, ?_, ?_, ?_⟩
  · rw [World.cell?_setCell_other _ _ _ _ (by intro e; injection e with e; omega)]; exact h.res
  · rw [World.frozen?_setCell]; exact h.resf
  · rw [World.cell?_setCell_other _ _ _ _ (by intro e; injection e with e; omega)]; exact h1
  · rw [World.frozen?_setCell]; exact h.lf
  · exact owns_fr h.at_ hf (fun q hq e => by simp [Value.ownBlock] at hq; omega)
  · have := (h.has.stored k (.int .i64 (v : Int))).1
    rw [numL_set _ _ hk] at this
    exact this
  · exact owns_fr h.done hf (fun q hq e => by have := (h.done.lt q hq).1; omega)

theorem RI.add {w wr w1 : World} {Lb Tb Hb n : Nat} {st : St} {dv dv' : Value} {p : Int} (h : RI w wr Lb Tb Hb n st dv) (o : Obj) (ho : w1.ownsRow (Hb + 1) 3 1 dv' (st.dn.length + 1) (st.dn.map (Value.int .i64) ++ [.int .i64 p]))
    (hg : (wr.alloc o).grownBy w1 dv.ownBlock) (hd : dv'.ownBlock = dv.ownBlock ∨ From (wr.alloc o).heap.size dv') : RI w w1 Lb Tb Hb n { st with dn := st.dn ++ [p] } dv' := by
  have hlt := h.lt
  have o1 := h.o1
  have o2 := h.o2
  have o3 := h.o3
  have hf : Fr (fun q => dv.ownBlock = some q) wr w1 := ((Fr.refl _ wr).alloc o).grown hg (fun q hq _ => hq)
  have hdn : ∀ q, dv.ownBlock = some q → Hb < q := fun q hq => by have := (h.done.lt q hq).1; omega
  obtain ⟨ao, c, h1, h2, h3⟩ := h.lv
  have hn : ∀ q, q ≤ Hb → ¬ dv.ownBlock = some q := fun q hq e => by have := hdn q e; omega
  refine ⟨(h.below.alloc h.below.size o).grown hg (by have := h.below.size; simp; omega) (fun q hq => by have := hdn q hq; have := h.below.size; omega), o1, o2, o3, hf.cell h.res (hn _ (by simp only; omega)), (hf.frozen (by simp only; omega) (hn _ (by simp only; omega))).trans h.resf,
    ⟨ao, c, hf.cell h1 (hn _ (by simp only; omega)), h2.fr0 hf (fun h0 q hq e => (h3 h0 q hq).2.2.2.2 e), ?_⟩, (hf.frozen (by simp only; omega) (hn _ (by simp only; omega))).trans h.lf, owns_fr h.at_ hf (fun q hq => hn q (by simp [Value.ownBlock] at hq; omega)), owns_fr h.has hf (fun q hq => hn q (by simp [Value.ownBlock] at hq; omega)), by simpa using ho⟩
  intro h0 q hq
  replace h0 : 0 < st.own.length := h0
  obtain ⟨a1, a2, a3, a4, a5⟩ := h3 h0 q hq
  refine ⟨a1, a2, a3, a4, fun e => ?_⟩
  rcases hd with hd | hd
  · exact a5 (by rw [← hd]; exact e)
  · have h5 := hd q e
    have := ints_lt h2 h0 hq
    simp at h5
    omega

/-- A lock was taken. -/
theorem RI.took {w w4 W : World} {Lb Tb Hb n : Nat} {st : St} {dv : Value} {X : List Int} {ao : Option Addr} {c q : Nat} (h : RI w w4 Lb Tb Hb n st dv) (hf : Fr (fun q => w4.heap.size ≤ q) w4 W)
    (hi : IsInts W (.slice ao X.length c) X) (hF : From w4.heap.size (.slice ao X.length c)) : RI w (W.setCell ⟨Lb, 0, none⟩ (.slice ao X.length c)) Lb Tb Hb n { st with own := X } dv := by
  have h1 := h.fr hf (fun q hq => hq)
  have hlt := h.lt
  have o1 := h.o1
  have o2 := h.o2
  have o3 := h.o3
  exact h1.setL hi (fun _ q hq => by
    have h5 := hF q hq
    refine ⟨by omega, by omega, by omega, by omega, fun e => ?_⟩
    have := (h.done.lt q e).2
    omega)

theorem RI.cells {w wr : World} {Lb Tb Hb n : Nat} {st : St} {dv : Value} (h : RI w wr Lb Tb Hb n st dv) {q : Nat} (hq : q < n) :
    wr.cell? ⟨Tb, q, none⟩ = some (.int .i64 (st.at_ q : Int)) ∧ wr.cell? ⟨Hb, q, none⟩ = some (.int .i64 (st.has q : Int)) ∧ wr.frozen? ⟨Tb, q, none⟩ = false ∧ wr.frozen? ⟨Hb, q, none⟩ = false :=
  ⟨(h.at_.cellAt q (by omega)).trans (numL_get _ hq), (h.has.cellAt q (by omega)).trans (numL_get _ hq), h.at_.frozenAt _, h.has.frozenAt _⟩
end Go.Proofs.Ytnammleaglmjaaa
