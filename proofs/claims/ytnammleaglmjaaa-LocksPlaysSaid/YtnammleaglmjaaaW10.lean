/- What lies in memory while the program plays: each step keeps it. No condition. -/
import Derived.Test.YtnammleaglmjaaaW9
import Derived.Test.YtnammleaglmjaaaW6
namespace Go.Proofs.Ytnammleaglmjaaa
open Go.RowKit

theorem Gives.slice {w : World} {r : List Int × Int} {e : Ending} {w' : World} (h : Gives w r e w') :
    ∃ ao c, e = .returned (.tuple #[.agg #[.slice ao r.1.length c], .int .i64 r.2]) ∧ IsInts w' (.slice ao r.1.length c) r.1 ∧ From w.heap.size (.slice ao r.1.length c) ∧ Below w.heap.size w w' := by
  obtain ⟨v, he, hi, hf, hb⟩ := h
  obtain ⟨ao, c, rfl, _⟩ := id hi
  exact ⟨ao, c, he, hi, hf, hb⟩

theorem IsInts.fr0 {S : Nat → Prop} {w w' : World} {v : Value} {xs : List Int} (h : IsInts w v xs) (hf : Fr S w w') (hn : 0 < xs.length → ∀ q, v.ownBlock = some q → ¬ S q) : IsInts w' v xs := by
  obtain ⟨ao, cap, rfl, h | ⟨b, off, rfl, hc⟩⟩ := h
  · exact ⟨ao, cap, rfl, .inl h⟩
  · by_cases h0 : xs.length = 0
    · exact ⟨_, cap, rfl, .inl h0⟩
    · exact ⟨_, cap, rfl, .inr ⟨b, off, rfl, fun i hi => hf.cell (hc i hi) (hn (by omega) b rfl)⟩⟩

theorem owns_fr {S : Nat → Prop} {w w' : World} {B : Nat} {e : TypeId} {s n : Nat} {v : Value} {xs : List Value} (h : w.ownsRow B e s v n xs) (hf : Fr S w w') (hn : ∀ q, v.ownBlock = some q → ¬ S q) : w'.ownsRow B e s v n xs := by
  obtain ⟨h1, h2 | ⟨g, cap, cur, rfl, hb, hg, h3⟩⟩ := h
  · exact ⟨h1, .inl h2⟩
  · exact ⟨h1, .inr ⟨g, cap, cur, rfl, hb, (hf.block g (Array.getElem?_eq_some_iff.1 hg).1 (hn g rfl)).trans hg, h3⟩⟩

theorem Fr.frozen {S : Nat → Prop} {w w' : World} (h : Fr S w w') {p : Addr} (hp : p.block < w.heap.size) (hs : ¬ S p.block) : w'.frozen? p = w.frozen? p :=
  World.frozen?_of_block (w := w) (h.block p.block hp hs)

/-- The cells of all jobs: its sections, where it is, how many locks it has. -/
def allA (jv : Nat → Value) (at_ has : Nat → Nat) (n : Nat) : List Value :=
  (List.range (n * 3)).map fun i => if i % 3 = 0 then jv (i / 3) else if i % 3 = 1 then .int .i64 (at_ (i / 3) : Int) else .int .i64 (has (i / 3) : Int)

theorem allA_len (jv : Nat → Value) (at_ has : Nat → Nat) (n : Nat) : (allA jv at_ has n).length = n * 3 := by simp [allA]
theorem allA_0 (jv : Nat → Value) (at_ has : Nat → Nat) {n k : Nat} (h : k < n) : (allA jv at_ has n)[k * 3]? = some (jv k) := by
  unfold allA
  rw [List.getElem?_map, List.getElem?_range (by omega)]
  simp
theorem allA_1 (jv : Nat → Value) (at_ has : Nat → Nat) {n k : Nat} (h : k < n) : (allA jv at_ has n)[k * 3 + 1]? = some (.int .i64 (at_ k : Int)) := by
  unfold allA
  rw [List.getElem?_map, List.getElem?_range (by omega)]
  have h1 : (k * 3 + 1) % 3 = 1 := by omega
  have h2 : (k * 3 + 1) / 3 = k := by omega
  simp [h1, h2]
theorem allA_2 (jv : Nat → Value) (at_ has : Nat → Nat) {n k : Nat} (h : k < n) : (allA jv at_ has n)[k * 3 + 2]? = some (.int .i64 (has k : Int)) := by
  unfold allA
  rw [List.getElem?_map, List.getElem?_range (by omega)]
  have h1 : (k * 3 + 2) % 3 = 2 := by omega
  have h2 : (k * 3 + 2) / 3 = k := by omega
  simp [h1, h2]
theorem allA_get (jv : Nat → Value) (at_ has : Nat → Nat) (n i : Nat) : (allA jv at_ has n)[i]? = if i < n * 3 then some (if i % 3 = 0 then jv (i / 3) else if i % 3 = 1 then .int .i64 (at_ (i / 3) : Int) else .int .i64 (has (i / 3) : Int)) else none := by
  unfold allA
  rw [List.getElem?_map]
  by_cases h : i < n * 3
  · rw [List.getElem?_range h, if_pos h]; rfl
  · rw [if_neg h, List.getElem?_eq_none (by simpa using h)]; rfl
theorem allA_set0 (jv : Nat → Value) (at_ has : Nat → Nat) {n k : Nat} (v : Value) (h : k < n) : (allA jv at_ has n).set (k * 3) v = allA (fun j => if j = k then v else jv j) at_ has n := by
  apply List.ext_getElem?
  intro i
  rw [List.getElem?_set, allA_get, allA_get, allA_len]
  by_cases e : k * 3 = i
  · subst e
    rw [if_pos rfl, if_pos (by omega), if_pos (by omega)]; simp
  · rw [if_neg e]
    by_cases h1 : i < n * 3
    · rw [if_pos h1, if_pos h1]
      by_cases h2 : i % 3 = 0
      · rw [if_pos h2, if_pos h2, if_neg (by omega)]
      · rw [if_neg h2, if_neg h2]
    · rw [if_neg h1, if_neg h1]
theorem allA_set1 (jv : Nat → Value) (at_ has : Nat → Nat) {n k : Nat} (v : Nat) (h : k < n) : (allA jv at_ has n).set (k * 3 + 1) (.int .i64 (v : Int)) = allA jv (upd at_ k v) has n := by
  apply List.ext_getElem?
  intro i
  rw [List.getElem?_set, allA_get, allA_get, allA_len]
  by_cases e : k * 3 + 1 = i
  · subst e
    have h1 : (k * 3 + 1) % 3 = 1 := by omega
    have h2 : (k * 3 + 1) / 3 = k := by omega
    rw [if_pos rfl, if_pos (by omega), if_pos (by omega)]; simp [h1, h2, upd]
  · rw [if_neg e]
    by_cases h1 : i < n * 3
    · rw [if_pos h1, if_pos h1]
      by_cases h2 : i % 3 = 1
      · have h0 : ¬ i % 3 = 0 := by omega
        rw [if_neg h0, if_neg h0, if_pos h2, if_pos h2]
        unfold upd; rw [if_neg (by omega)]
      · rw [if_neg h2, if_neg h2]
    · rw [if_neg h1, if_neg h1]
theorem allA_set2 (jv : Nat → Value) (at_ has : Nat → Nat) {n k : Nat} (v : Nat) (h : k < n) : (allA jv at_ has n).set (k * 3 + 2) (.int .i64 (v : Int)) = allA jv at_ (upd has k v) n := by
  apply List.ext_getElem?
  intro i
  rw [List.getElem?_set, allA_get, allA_get, allA_len]
  by_cases e : k * 3 + 2 = i
  · subst e
    have h1 : (k * 3 + 2) % 3 = 2 := by omega
    have h2 : (k * 3 + 2) / 3 = k := by omega
    rw [if_pos rfl, if_pos (by omega), if_pos (by omega)]; simp [h1, h2, upd]
  · rw [if_neg e]
    by_cases h1 : i < n * 3
    · rw [if_pos h1, if_pos h1]
      by_cases h2 : i % 3 = 2
      · have h0 : ¬ i % 3 = 0 := by omega
        have h01 : ¬ i % 3 = 1 := by omega
        rw [if_neg h0, if_neg h0, if_neg h01, if_neg h01]
        unfold upd; rw [if_neg (by omega)]
      · by_cases h3 : i % 3 = 0
        · rw [if_pos h3, if_pos h3]
        · have h31 : i % 3 = 1 := by omega
          rw [if_neg h3, if_neg h3, if_pos h31, if_pos h31]
    · rw [if_neg h1, if_neg h1]

/-- What lies in memory behind some picks. -/
structure PI (w wr : World) (Lb Ab n : Nat) (jv : Nat → Value) (st : St) (dv : Value) : Prop where
  below : Below w.heap.size w wr
  o1 : w.heap.size < Lb
  o2 : Lb < Ab
  res : wr.cell? ⟨w.heap.size, 0, none⟩ = some (.slice none 0 0)
  resf : wr.frozen? ⟨w.heap.size, 0, none⟩ = false
  lv : ∃ ao c, wr.cell? ⟨Lb, 0, none⟩ = some (.slice ao st.own.length c) ∧ IsInts wr (.slice ao st.own.length c) st.own ∧
    (0 < st.own.length → ∀ q, (Value.slice ao st.own.length c).ownBlock = some q → q ≠ w.heap.size ∧ q ≠ Lb ∧ q ≠ Ab ∧ dv.ownBlock ≠ some q)
  lf : wr.frozen? ⟨Lb, 0, none⟩ = false
  all : wr.ownsRow Ab 49 3 (.slice (some ⟨Ab, 0, none⟩) n n) n (allA jv st.at_ st.has n)
  done : wr.ownsRow (Ab + 1) 3 1 dv st.dn.length (st.dn.map (Value.int .i64))

theorem PI.lt {w wr : World} {Lb Ab n : Nat} {jv : Nat → Value} {st : St} {dv : Value} (h : PI w wr Lb Ab n jv st dv) : Ab < wr.heap.size := (h.all.lt Ab rfl).2

/-- New blocks, and writes to blocks that are none of these. -/
theorem PI.fr {w wr w1 : World} {Lb Ab n : Nat} {jv : Nat → Value} {st : St} {dv : Value} {S : Nat → Prop} (h : PI w wr Lb Ab n jv st dv) (hf : Fr S wr w1) (hS : ∀ q, S q → wr.heap.size ≤ q) : PI w w1 Lb Ab n jv st dv := by
  have hlt := h.lt
  have o1 := h.o1
  have o2 := h.o2
  have hn : ∀ q, q < wr.heap.size → ¬ S q := fun q hq hs => by have := hS q hs; omega
  obtain ⟨ao, c, h1, h2, h3⟩ := h.lv
  refine ⟨h.below.trans (hf.below h.below.size (fun q hq => by have := hS q hq; have := h.below.size; omega)), o1, o2, hf.cell h.res (hn _ (by simp only; omega)), (hf.frozen (by simp only; omega) (hn _ (by simp only; omega))).trans h.resf,
    ⟨ao, c, hf.cell h1 (hn _ (by simp only; omega)), ?_, h3⟩, (hf.frozen (by simp only; omega) (hn _ (by simp only; omega))).trans h.lf, owns_fr h.all hf (fun q hq => hn q (h.all.lt q hq).2), owns_fr h.done hf (fun q hq => hn q (h.done.lt q hq).2)⟩
  exact h2.grow (hf.below (Nat.le_refl _) hS)

theorem PI.grow {w wr w1 : World} {Lb Ab n : Nat} {jv : Nat → Value} {st : St} {dv : Value} (h : PI w wr Lb Ab n jv st dv) (hb : Below wr.heap.size wr w1) : PI w w1 Lb Ab n jv st dv :=
  h.fr (S := fun _ => False) (Fr.ofBelow hb) (fun _ h => h.elim)

/-- Other locks are laid into the variable. -/
theorem PI.setL {w wr : World} {Lb Ab n : Nat} {jv : Nat → Value} {st : St} {dv : Value} (h : PI w wr Lb Ab n jv st dv) {own : List Int} {ao : Option Addr} {c : Nat}
    (hi : IsInts wr (.slice ao own.length c) own) (hd : 0 < own.length → ∀ q, (Value.slice ao own.length c).ownBlock = some q → q ≠ w.heap.size ∧ q ≠ Lb ∧ q ≠ Ab ∧ dv.ownBlock ≠ some q) :
    PI w (wr.setCell ⟨Lb, 0, none⟩ (.slice ao own.length c)) Lb Ab n jv { st with own := own } dv := by
  have hlt := h.lt
  have o1 := h.o1
  have o2 := h.o2
  have hf : Fr (· = Lb) wr (wr.setCell ⟨Lb, 0, none⟩ (.slice ao own.length c)) := Fr.setCell (S := (· = Lb)) (Fr.refl _ _) (fun _ => rfl) _
  obtain ⟨ao0, c0, h1, _, _⟩ := h.lv
  refine ⟨h.below.setCell (by simp only; omega) _, o1, o2, ?_, ?_, ⟨ao, c, World.cell?_setCell_same _ _ _ h1, hi.fr0 hf (fun h0 q hq e => (hd h0 q hq).2.1 e), hd⟩, ?_, ?_, ?_⟩
  · rw [World.cell?_setCell_other _ _ _ _ (by intro e; injection e with e; omega)]; exact h.res
  · rw [World.frozen?_setCell]; exact h.resf
  · rw [World.frozen?_setCell]; exact h.lf
  · exact owns_fr h.all hf (fun q hq e => by simp [Value.ownBlock] at hq; omega)
  · exact owns_fr h.done hf (fun q hq e => by have := (h.done.lt q hq).1; omega)

/-- A cell of all jobs is written. -/
theorem PI.setA {w wr : World} {Lb Ab n : Nat} {jv : Nat → Value} {st : St} {dv : Value} (h : PI w wr Lb Ab n jv st dv) (jv' : Nat → Value) (at' has' : Nat → Nat) (i : Nat) (u : Value)
    (he : (allA jv st.at_ st.has n).set i u = allA jv' at' has' n) : PI w (wr.setCell ⟨Ab, i, none⟩ u) Lb Ab n jv' { st with at_ := at', has := has' } dv := by
  have hlt := h.lt
  have o1 := h.o1
  have o2 := h.o2
  have hf : Fr (· = Ab) wr (wr.setCell ⟨Ab, i, none⟩ u) := Fr.setCell (S := (· = Ab)) (Fr.refl _ _) (fun _ => rfl) _
  obtain ⟨ao, c, h1, h2, h3⟩ := h.lv
  refine ⟨h.below.setCell (by simp only; omega) _, o1, o2, ?_, ?_, ⟨ao, c, ?_, h2.fr0 hf (fun h0 q hq e => (h3 h0 q hq).2.2.1 e), h3⟩, ?_, ?_, ?_⟩
  · rw [World.cell?_setCell_other _ _ _ _ (by intro e; injection e with e; omega)]; exact h.res
  · rw [World.frozen?_setCell]; exact h.resf
  · rw [World.cell?_setCell_other _ _ _ _ (by intro e; injection e with e; omega)]; exact h1
  · rw [World.frozen?_setCell]; exact h.lf
  · have := (h.all.stored i u).1
    simp only at this ⊢
    rw [← he]
    exact this
  · exact owns_fr h.done hf (fun q hq e => by have := (h.done.lt q hq).1; omega)

/-- One more is done. -/
theorem PI.add {w wr w1 : World} {Lb Ab n : Nat} {jv : Nat → Value} {st : St} {dv dv' : Value} {p : Int} (h : PI w wr Lb Ab n jv st dv) (o : Obj) (ho : w1.ownsRow (Ab + 1) 3 1 dv' (st.dn.length + 1) (st.dn.map (Value.int .i64) ++ [.int .i64 p]))
    (hg : (wr.alloc o).grownBy w1 dv.ownBlock) (hd : dv'.ownBlock = dv.ownBlock ∨ From (wr.alloc o).heap.size dv') : PI w w1 Lb Ab n jv { st with dn := st.dn ++ [p] } dv' := by
  have hlt := h.lt
  have o1 := h.o1
  have o2 := h.o2
  have hf : Fr (fun q => dv.ownBlock = some q) wr w1 := ((Fr.refl _ wr).alloc o).grown hg (fun q hq _ => hq)
  have hdn : ∀ q, dv.ownBlock = some q → Ab < q := fun q hq => by have := (h.done.lt q hq).1; omega
  obtain ⟨ao, c, h1, h2, h3⟩ := h.lv
  have hn : ∀ q, q ≤ Ab → ¬ dv.ownBlock = some q := fun q hq e => by have := hdn q e; omega
  refine ⟨(h.below.alloc h.below.size o).grown hg (by have := h.below.size; simp; omega) (fun q hq => by have := hdn q hq; have := h.below.size; omega), o1, o2, hf.cell h.res (hn _ (by simp only; omega)), (hf.frozen (by simp only; omega) (hn _ (by simp only; omega))).trans h.resf,
    ⟨ao, c, hf.cell h1 (hn _ (by simp only; omega)), h2.fr0 hf (fun h0 q hq e => (h3 h0 q hq).2.2.2 e), ?_⟩, (hf.frozen (by simp only; omega) (hn _ (by simp only; omega))).trans h.lf, owns_fr h.all hf (fun q hq => hn q (by simp [Value.ownBlock] at hq; omega)), by simpa using ho⟩
  intro h0 q hq
  replace h0 : 0 < st.own.length := h0
  obtain ⟨a1, a2, a3, a4⟩ := h3 h0 q hq
  refine ⟨a1, a2, a3, fun e => ?_⟩
  rcases hd with hd | hd
  · exact a4 (by rw [← hd]; exact e)
  · have h5 := hd q e
    obtain ⟨ao1, c1, e1, hz | ⟨b, off, rfl, hc⟩⟩ := h2
    · omega
    · injection e1 with e1 _ _
      subst e1
      simp [Value.ownBlock] at hq
      subst hq
      have := World.block_lt_of_cell? wr _ (hc 0 h0)
      simp at this h5
      omega
end Go.Proofs.Ytnammleaglmjaaa
