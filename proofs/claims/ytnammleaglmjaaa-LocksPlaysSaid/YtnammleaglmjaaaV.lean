/- Words for the proofs over the locks: lists of numbers that lie in memory, and which blocks a call may have changed. No condition. -/
import Derived.WalkKit
import Derived.WalkSpells
import Derived.WalkLawsBesides
namespace Go.Proofs.Ytnammleaglmjaaa
open Go.RowKit

/-- An element of a list; outside, 0. -/
def nth (xs : List Int) (i : Nat) : Int := xs.getD i 0

theorem nth_lt {xs : List Int} {i : Nat} (h : i < xs.length) : xs[i] = nth xs i := by
  simp [nth, List.getD, h]

/-- A list lies in a slice value. -/
def IsInts (w : World) (v : Value) (xs : List Int) : Prop :=
  ∃ ao cap, v = .slice ao xs.length cap ∧ (xs.length = 0 ∨ ∃ b off, ao = some ⟨b, off, none⟩ ∧ ∀ i, i < xs.length → w.cell? ⟨b, off + i, none⟩ = some (.int .i64 (nth xs i)))

theorem IsInts.nil (w : World) : IsInts w (.slice none 0 0) [] := ⟨none, 0, rfl, .inl rfl⟩

/-- The block of a value lies from B on. -/
def From (B : Nat) (v : Value) : Prop := ∀ k, v.ownBlock = some k → B ≤ k

theorem From.nil (B : Nat) : From B (.slice none 0 0) := fun k h => by simp [Value.ownBlock] at h

theorem From.mono {B B' : Nat} {v : Value} (h : From B v) (hb : B' ≤ B) : From B' v := fun k hk => Nat.le_trans hb (h k hk)

/-- Only the blocks of S may have turned; new ones may be there. -/
structure Fr (S : Nat → Prop) (w w' : World) : Prop where
  os : w'.os = w.os
  tape : w'.tape = w.tape
  output : w'.output = w.output
  size : w.heap.size ≤ w'.heap.size
  block : ∀ k, k < w.heap.size → ¬ S k → w'.heap[k]? = w.heap[k]?

theorem Fr.refl (S : Nat → Prop) (w : World) : Fr S w w := ⟨rfl, rfl, rfl, Nat.le_refl _, fun _ _ _ => rfl⟩

theorem Fr.trans {S : Nat → Prop} {a b c : World} (h : Fr S a b) (k : Fr S b c) : Fr S a c :=
  ⟨k.os.trans h.os, k.tape.trans h.tape, k.output.trans h.output, Nat.le_trans h.size k.size, fun i hi hs => (k.block i (Nat.lt_of_lt_of_le hi h.size) hs).trans (h.block i hi hs)⟩

theorem Fr.weaken {S T : Nat → Prop} {w w' : World} (h : Fr S w w') (hst : ∀ k, k < w.heap.size → S k → T k) : Fr T w w' :=
  ⟨h.os, h.tape, h.output, h.size, fun k hk ht => h.block k hk fun hs => ht (hst k hk hs)⟩

theorem Fr.drewN {S : Nat → Prop} {a w : World} (h : Fr S a w) (n : Nat) : Fr S a (w.drewN n) := ⟨h.os, h.tape, h.output, h.size, h.block⟩

theorem Fr.drew {S : Nat → Prop} {a w : World} (h : Fr S a w) : Fr S a w.drew := ⟨h.os, h.tape, h.output, h.size, h.block⟩

theorem Fr.alloc {S : Nat → Prop} {a w : World} (h : Fr S a w) (o : Obj) : Fr S a (w.alloc o) :=
  h.trans ⟨rfl, rfl, rfl, by simp, fun k hk _ => Below.heap_alloc _ _ _ hk⟩

theorem Fr.setCell {S : Nat → Prop} {a w : World} (h : Fr S a w) {p : Addr} (hp : p.block < a.heap.size → S p.block) (u : Value) : Fr S a (w.setCell p u) :=
  ⟨h.os, h.tape, h.output, by simpa [World.setCell] using h.size, fun k hk hs => by
    rw [Below.heap_setCell _ _ _ _ (fun e => hs (by subst e; exact hp hk))]; exact h.block k hk hs⟩

theorem Fr.grown {S : Nat → Prop} {a w w' : World} {row : Option Nat} (h : Fr S a w) (hg : w.grownBy w' row) (hr : ∀ k, row = some k → k < a.heap.size → S k) : Fr S a w' :=
  ⟨hg.os.trans h.os, hg.tape.trans h.tape, hg.output.trans h.output, Nat.le_trans h.size hg.size, fun k hk hs =>
    (hg.block k (Nat.lt_of_lt_of_le hk h.size) (fun e => hs (hr k e.symm hk))).trans (h.block k hk hs)⟩

theorem Fr.ofBelow {S : Nat → Prop} {w w' : World} (h : Below w.heap.size w w') : Fr S w w' := ⟨h.os, h.tape, h.output, h.size, fun k hk _ => h.block k hk⟩

theorem Fr.below {S : Nat → Prop} {B : Nat} {w w' : World} (h : Fr S w w') (hB : B ≤ w.heap.size) (hs : ∀ k, S k → B ≤ k) : Below B w w' :=
  ⟨h.os, h.tape, h.output, h.size, fun k hk => h.block k (by omega) fun e => by have := hs k e; omega⟩

theorem Fr.cell {S : Nat → Prop} {w w' : World} (h : Fr S w w') {p : Addr} {v : Value} (hc : w.cell? p = some v) (hp : ¬ S p.block) : w'.cell? p = some v :=
  (World.cell?_of_block (w := w) (h.block p.block (World.block_lt_of_cell? w p hc) hp)).trans hc

theorem IsInts.fr {S : Nat → Prop} {w w' : World} {v : Value} {xs : List Int} (h : IsInts w v xs) (hf : Fr S w w') (hn : ∀ k, v.ownBlock = some k → ¬ S k) : IsInts w' v xs := by
  obtain ⟨ao, cap, rfl, h | ⟨b, off, rfl, hc⟩⟩ := h
  · exact ⟨ao, cap, rfl, .inl h⟩
  · exact ⟨_, cap, rfl, .inr ⟨b, off, rfl, fun i hi => hf.cell (hc i hi) (hn b rfl)⟩⟩

theorem IsInts.below {B : Nat} {w w' : World} {v : Value} {xs : List Int} (h : IsInts w v xs) (hb : Below B w w') (hn : ∀ k, v.ownBlock = some k → k < B) : IsInts w' v xs := by
  obtain ⟨ao, cap, rfl, h | ⟨b, off, rfl, hc⟩⟩ := h
  · exact ⟨ao, cap, rfl, .inl h⟩
  · exact ⟨_, cap, rfl, .inr ⟨b, off, rfl, fun i hi => (hb.cell (p := ⟨b, off + i, none⟩) (hn b rfl)).trans (hc i hi)⟩⟩

/-- What lies in memory stays there while only new blocks come. -/
theorem IsInts.grow {w w' : World} {v : Value} {xs : List Int} (h : IsInts w v xs) (hb : Below w.heap.size w w') : IsInts w' v xs := by
  obtain ⟨ao, cap, rfl, h | ⟨b, off, rfl, hc⟩⟩ := h
  · exact ⟨ao, cap, rfl, .inl h⟩
  · exact ⟨_, cap, rfl, .inr ⟨b, off, rfl, fun i hi => (hb.cell (p := ⟨b, off + i, none⟩) (World.block_lt_of_cell? w ⟨b, off + i, none⟩ (hc i hi))).trans (hc i hi)⟩⟩

theorem IsInts.drewN {w : World} {v : Value} {xs : List Int} (h : IsInts w v xs) (n : Nat) : IsInts (w.drewN n) v xs := by
  obtain ⟨ao, cap, rfl, h | ⟨b, off, rfl, hc⟩⟩ := h
  · exact ⟨ao, cap, rfl, .inl h⟩
  · exact ⟨_, cap, rfl, .inr ⟨b, off, rfl, fun i hi => hc i hi⟩⟩

/-- A row that the call owns, of numbers. -/
theorem IsInts.ofRow {w : World} {B : Nat} {v : Value} {xs : List Int} (h : w.ownsRow B 3 1 v xs.length (xs.map (Value.int .i64))) : IsInts w v xs := by
  obtain ⟨_, ⟨rfl, h0⟩ | ⟨g, cap, cur, rfl, hb, hg, hnc, hcm, hcs, htake⟩⟩ := h
  · refine ⟨none, 0, by rw [h0], .inl h0⟩
  · refine ⟨_, cap, rfl, .inr ⟨g, 0, rfl, fun i hi => ?_⟩⟩
    have hl : cur.toList[i]? = some (.int .i64 (nth xs i)) := by
      have h1 : (cur.toList.take (xs.length * 1))[i]? = some (.int .i64 (nth xs i)) := by
        rw [htake]; simp [nth, hi, List.getD]
      rw [List.getElem?_take] at h1
      split at h1
      · exact h1
      · cases h1
    rw [Nat.zero_add, cell_of_row w g i cur 3 (0, 0) hg]
    simpa using hl

theorem From.ofRow {w : World} {B : Nat} {e : TypeId} {s n : Nat} {v : Value} {xs : List Value} (h : w.ownsRow B e s v n xs) : From B v := fun k hk => (h.lt k hk).1

end Go.Proofs.Ytnammleaglmjaaa
