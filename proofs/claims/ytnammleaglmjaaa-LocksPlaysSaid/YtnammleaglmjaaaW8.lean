/- Who is stuck, of waiters that are told rightly. Conditions: no lock stands twice, none is below 0, nobody wants what it has, at most 64 waiters of at most 1000 locks each. -/
import Derived.Test.YtnammleaglmjaaaM
import Derived.Test.YtnammleaglmjaaaW4
import Derived.Test.YtnammleaglmjaaaW6
namespace Go.Proofs.Ytnammleaglmjaaa
open Go.RowKit

/-- Who has what, of the first k. -/
def byF (ws : List (List Int × Int)) : Nat → Int → Option Int
  | 0 => fun _ => none
  | k + 1 => fun x => if x ∈ (wth ws k).1 then some (k : Int) else byF ws k x
/-- .. and the first j locks of one more. -/
def inJ (f : Int → Option Int) (k : Nat) (hs : List Int) (j : Nat) : Int → Option Int := fun x => if x ∈ hs.take j then some (k : Int) else f x
/-- Who waits for whom, of the first k. -/
def waF (ws : List (List Int × Int)) : Nat → Int → Option Int
  | 0 => fun _ => none
  | k + 1 => if (byF ws ws.length (wth ws k).2).isSome && decide (0 ≤ (wth ws k).2) then (fun j => if j = (k : Int) then some ((byF ws ws.length (wth ws k).2).getD 0) else waF ws k j) else waF ws k
def stepF (g : Int → Option Int) (k : Nat) : Int → Option Int :=
  if (g k).isSome && !(g ((g k).getD 0)).isSome then (fun j => if j = (k : Int) then none else g j) else g
def rndF (g : Int → Option Int) : Nat → Int → Option Int
  | 0 => g
  | k + 1 => stepF (rndF g k) k
def outF (g : Int → Option Int) (n : Nat) : Nat → Int → Option Int
  | 0 => g
  | i + 1 => rndF (outF g n i) n
def resL (g : Int → Option Int) : Nat → List Int
  | 0 => []
  | k + 1 => if (g k).isSome then resL g k ++ [(k : Int)] else resL g k
def stuckM (ws : List (List Int × Int)) : List Int := resL (outF (waF ws ws.length) ws.length ws.length) ws.length

structure Good (ws : List (List Int × Int)) : Prop where
  few : ws.length ≤ 64
  len : ∀ k, k < ws.length → (wth ws k).1.length ≤ 1000
  wf : ∀ k, k < ws.length → ∀ j, j < (wth ws k).1.length → 0 ≤ nth (wth ws k).1 j ∧ nth (wth ws k).1 j ≤ 9223372036854775807
  once : ∀ k, k < ws.length → ∀ j, j < (wth ws k).1.length → inJ (byF ws k) k (wth ws k).1 j (nth (wth ws k).1 j) = none
  wants : ∀ k, k < ws.length → (wth ws k).1.contains (wth ws k).2 = false
  wwf : ∀ k, k < ws.length → -9223372036854775808 ≤ (wth ws k).2 ∧ (wth ws k).2 ≤ 9223372036854775807

theorem inJ_succ (f : Int → Option Int) (k : Nat) (hs : List Int) (j : Nat) (h : j < hs.length) (x : Int) : (if x = nth hs j then some (k : Int) else inJ f k hs j x) = inJ f k hs (j + 1) x := by
  unfold inJ
  rw [List.take_succ_eq_append_getElem h, nth_lt h]
  by_cases e : x = nth hs j
  · simp [e]
  · simp [e]

theorem inJ_all (ws : List (List Int × Int)) (k : Nat) (x : Int) : inJ (byF ws k) k (wth ws k).1 (wth ws k).1.length x = byF ws (k + 1) x := by
  simp [inJ, byF]

/-- All that a function tells lies from 0 to 64. -/
def Rng (f : Int → Option Int) : Prop := ∀ x v, f x = some v → 0 ≤ v ∧ v ≤ 64
theorem Rng.getD {f : Int → Option Int} (h : Rng f) (x : Int) : 0 ≤ (f x).getD 0 ∧ (f x).getD 0 ≤ 64 := by
  cases hf : f x with
  | none => simp
  | some v => simpa using h x v hf
theorem byF_rng (ws : List (List Int × Int)) (n : Nat) (hn : n ≤ 64) : Rng (byF ws n) := by
  induction n with
  | zero => intro x v h; simp [byF] at h
  | succ k ih =>
    intro x v h
    simp only [byF] at h
    split at h
    · injection h with h; omega
    · exact ih (by omega) x v h
theorem waF_rng (ws : List (List Int × Int)) (hl : ws.length ≤ 64) (n : Nat) : Rng (waF ws n) := by
  induction n with
  | zero => intro x v h; simp [waF] at h
  | succ k ih =>
    intro x v h
    unfold waF at h
    split at h
    · simp only at h
      split at h
      · injection h with h; rw [← h]; exact (byF_rng ws _ hl).getD _
      · exact ih x v h
    · exact ih x v h
theorem stepF_rng {g : Int → Option Int} (h : Rng g) (k : Nat) : Rng (stepF g k) := by
  unfold stepF
  split
  · intro x v hx
    simp only at hx
    split at hx
    · cases hx
    · exact h x v hx
  · exact h
theorem rndF_rng {g : Int → Option Int} (h : Rng g) (k : Nat) : Rng (rndF g k) := by
  induction k with
  | zero => exact h
  | succ k ih => exact stepF_rng ih k
theorem outF_rng {g : Int → Option Int} (h : Rng g) (n k : Nat) : Rng (outF g n k) := by
  induction k with
  | zero => exact h
  | succ k ih => exact rndF_rng ih n
theorem resL_len (g : Int → Option Int) (k : Nat) : (resL g k).length ≤ k := by
  induction k with
  | zero => simp [resL]
  | succ k ih =>
    unfold resL
    split
    · rw [List.length_append]; simp; omega
    · omega

theorem contains_any (v : Value) (xs : List Int) (x : Int) (w : World) (h : IsInts w v xs) (hn : xs.length ≤ 9223372036854775807) :
    Calls Try.prog 21 #[v, .int .i64 x] w fun e w' => e = .returned (.bool (xs.contains x)) ∧ w = w' := by
  obtain ⟨ao, cap, rfl, h0 | ⟨b, off, rfl, hc⟩⟩ := h
  · obtain rfl : xs = [] := List.eq_nil_of_length_eq_zero h0
    exact (Try.slices_Contains_int_empty ao cap x w).mono fun e w' ⟨he, hw⟩ => ⟨he, hw.symm⟩
  · refine (Try.slices_Contains_int b off xs.length cap xs x w (Nat.le_refl _) hn (fun j hj => hc j hj)).mono fun e w' ⟨he, hw⟩ => ⟨?_, hw.symm⟩
    rwa [List.take_length] at he

theorem wf_i64 {x : Int} (h0 : -9223372036854775808 ≤ x) (h1 : x ≤ 9223372036854775807) : (Lit.int .i64 x).wf = true := WalkArith.wf_i64 (by omega)

/-- A waiter's box, beside the map. -/
structure Box (w wi : World) (X : Nat) (v : Value) (p : Int) : Prop where
  below : Below w.heap.size w wi
  old : w.heap.size < X
  new : X < wi.heap.size
  c0 : wi.cell? ⟨X, 0, none⟩ = some v
  c1 : wi.cell? ⟨X, 1, none⟩ = some (.int .i64 p)

theorem Box.grown {w wi w2 : World} {X : Nat} {v : Value} {p : Int} (h : Box w wi X v p) (hg : wi.grownBy w2 (some w.heap.size)) : Box w w2 X v p := by
  have ho := h.old
  have hn := h.new
  have hs := hg.size
  have hb := hg.block X hn (by intro e; injection e with e; omega)
  exact ⟨h.below.grown hg (by have := h.below.size; omega) (fun k hk => by injection hk with hk; omega), ho, by omega, (World.cell?_of_block (w := wi) hb).trans h.c0, (World.cell?_of_block (w := wi) hb).trans h.c1⟩

set_option maxHeartbeats 3200000 in
theorem stuck_any (b off c : Nat) (ws : List (List Int × Int)) (w : World) (hw : WCells w b off ws) (hp : 0 < ws.length) (hg : Good ws) :
    Calls Try.prog 9 #[.slice (some ⟨b, off, none⟩) ws.length c] w fun e w' => ∃ v', e = .returned (.tuple #[v', .int .i64 0]) ∧ IsInts w' v' (stuckM ws) ∧ Below w.heap.size w w' := by
  have hlen := hg.few
  have Hw := Lib.hid hw
  clear hw
  have hmm := @run_makeMap Try.prog
  go_enter Try.func9, Try.ntmps9
  go_wp2
  go_loopw [31] (fun i wr => ∃ (k n : Nat), k ≤ ws.length ∧ i = .int .i64 k ∧ n ≤ 1000 * k ∧ Hid (IM Try.prog 3 wr w.heap.size n (byF ws k)) ∧ Below w.heap.size w wr) (fun i _ => ws.length - (intOf i).toNat)
  case atStart => exact ⟨0, 0, Nat.zero_le _, rfl, Nat.le_refl _, IM.made _ _ _, (Below.refl _ _).alloc (Nat.le_refl _) _⟩
  case round =>
    obtain ⟨k, n, hk, rfl, hn, hM, hb⟩ := hrel
    by_cases hlt : k < ws.length
    · obtain ⟨hv, hc1, hI, hc2⟩ := Hw.out k hlt
      have hd1 : wr.cell? ⟨b, off + k * 2, none⟩ = some hv := (hb.cell (p := ⟨b, off + k * 2, none⟩) (World.block_lt_of_cell? w _ hc1)).trans hc1
      have hd2 : wr.cell? ⟨b, off + k * 2 + 1, none⟩ = some (.int .i64 (wth ws k).2) := (hb.cell (p := ⟨b, off + k * 2 + 1, none⟩) (World.block_lt_of_cell? w _ hc2)).trans hc2
      have hlk := hg.len k hlt
      clear hc1 hc2
      have hwf := hg.wf k hlt
      have hon := hg.once k hlt
      have hwa := hg.wants k hlt
      have hwb := hg.wwf k hlt
      have hall := inJ_all ws k
      obtain ⟨X, eX⟩ : ∃ X, X = wth ws k := ⟨_, rfl⟩
      rw [← eX] at hI hd2 hlk hwf hon hwa hwb hall
      clear eX
      obtain ⟨A, p⟩ := X
      simp only at hI hd2 hlk hwf hon hwa hwb hall
      have Hwf := Lib.hid hwf
      have Hon := Lib.hid hon
      have Hwa := Lib.hid hwa
      have Hall := Lib.hid hall
      have HI := hI
      obtain ⟨ao1, c1, rfl, hA⟩ := hI
      have HA := Lib.hid hA
      clear hA hwf hon hwa hall
      have hbox : Box w (wr.alloc (.cells #[.slice ao1 A.length c1, .int .i64 p] 43)) wr.heap.size (.slice ao1 A.length c1) p :=
        ⟨hb.alloc (by have := hb.size; omega) _, hM.out.lt, by simp, by simp, by simp⟩
      have hM0 : Hid (IM Try.prog 3 (wr.alloc (.cells #[.slice ao1 A.length c1, .int .i64 p] 43)) w.heap.size n (inJ (byF ws k) k A 0)) :=
        Lib.hid ((hM.out.fr ((Fr.refl (fun _ => False) wr).alloc _) (by simp)).ext (fun x => by simp [inJ]))
      obtain ⟨Y, eY⟩ : ∃ Y, Y = wr.heap.size := ⟨_, rfl⟩
      rw [← eY] at hbox
      have EY := Lib.hid eY
      clear eY hM hb
      obtain ⟨wo, rfl⟩ : ∃ wo : World, wo = wr := ⟨_, rfl⟩
      go_wp2
      rw [← EY.out]
      go_loopw [39] (fun i wi => ∃ (j m : Nat), j ≤ A.length ∧ i = .int .i64 j ∧ m ≤ 1000 * k + j ∧ Hid (IM Try.prog 3 wi w.heap.size m (inJ (byF ws k) k A j)) ∧ Box w wi Y (.slice ao1 A.length c1) p) (fun i _ => A.length - (intOf i).toNat)
      case atStart => exact ⟨0, n, Nat.zero_le _, rfl, by omega, hM0, hbox⟩
      case round =>
        obtain ⟨j, m, hj, rfl, hm, hMi, hbx⟩ := hrel
        clear hM0 hbox
        by_cases hjl : j < A.length
        · obtain ⟨x, ex⟩ : ∃ x, x = nth A j := ⟨_, rfl⟩
          have hx0 := Hwf.out j hjl
          have hno := Hon.out j hjl
          have hsu := inJ_succ (byF ws k) k A j hjl
          rcases HA.out with h0 | ⟨ab, aoff, e1, hA⟩
          · omega
          subst e1
          have hcx := hA j hjl
          have hcx' : wr.cell? ⟨ab, aoff + j, none⟩ = some (.int .i64 (nth A j)) := (hbx.below.cell (p := ⟨ab, aoff + j, none⟩) (World.block_lt_of_cell? w _ hcx)).trans hcx
          rw [← ex] at hx0 hno hsu hcx'
          have Hno := Lib.hid hno
          have Hsu := Lib.hid hsu
          have hx1 : (Lit.int .i64 x).wf = true := wf_i64 (by omega) hx0.2
          have hk1 : (Lit.int .i64 (k : Int)).wf = true := wf_i64 (by omega) (by omega)
          have Hx1 := Lib.hid hx1
          have Hk1 := Lib.hid hk1
          have hxn : ¬ x < 0 := by omega
          have hlook : ((inJ (byF ws k) k A j x).getD 0) = 0 ∧ (inJ (byF ws k) k A j x).isSome = false := by rw [hno]; exact ⟨rfl, rfl⟩
          have Hl := Lib.hid hlook
          clear hno hsu hx1 hk1 hA hcx ex hlook
          go_wp2_with (first | (at_lookup; refine wpList_look_im _ rfl (.tmp 44) (.tmp 45) 54 3 rfl Try.underlying54 Try.underlying3 (by kernel_rfl) w.heap.size m (inJ (byF ws k) k A j) rfl hMi.out x rfl Hx1.out ?_; rw [Hl.out.1, Hl.out.2]) | (at_mapUpdate; refine wpList_put_im _ rfl (.tmp 54) (.tmp 55) (.tmp 56) 54 3 rfl Try.underlying54 Try.underlying3 w.heap.size m (inJ (byF ws k) k A j) rfl hMi.out (by unfold maxLen; omega) x k rfl rfl Hx1.out Hk1.out ?_))
          intro w3 hM3 hg3
          have hb3 := hbx.grown hg3
          have HM3 : Hid (IM Try.prog 3 w3 w.heap.size (m + 1) (inJ (byF ws k) k A (j + 1))) := Lib.hid (hM3.ext Hsu.out)
          clear hM3 hg3 hMi hbx hcx'
          go_wp2_with fail
          go_roundw
          case rel => exact ⟨j + 1, m + 1, by omega, by go_num, by omega, HM3, hb3⟩
          case measure => simp [intOf]; omega
        · obtain rfl : j = A.length := by omega
          have hc0 := hbx.c0
          have hc1 := hbx.c1
          have hIr := HI.grow hbx.below
          go_wp2_with fail
          refine (contains_any _ A p _ hIr (by omega)).mono ?_
          rintro e w' ⟨rfl, rfl⟩
          rw [Hwa.out]
          have HM3 : Hid (IM Try.prog 3 wr w.heap.size m (byF ws (k + 1))) := Lib.hid (hMi.out.ext Hall.out)
          have hb3 := hbx.below
          clear hMi hbx hc0 hc1 hIr
          go_wp2_with fail
          go_roundw
          case rel => exact ⟨k + 1, m, by omega, by go_num, by omega, HM3, hb3⟩
          case measure => simp [intOf]; omega
    · obtain rfl : k = ws.length := by omega
      obtain ⟨M2, eM2⟩ : ∃ M2, M2 = wr.heap.size := ⟨_, rfl⟩
      have hM1lt := hM.out.lt
      have h0 : Hid (IM Try.prog 3 (wr.alloc (.map #[] 0)) w.heap.size n (byF ws ws.length)) := Lib.hid (hM.out.fr ((Fr.refl (fun _ => False) wr).alloc _) (by simp))
      have h1 : Hid (IM Try.prog 3 (wr.alloc (.map #[] 0)) M2 0 (waF ws 0)) := by rw [eM2]; exact Lib.hid (IM.made _ _ _)
      have hb1 : Below w.heap.size w (wr.alloc (.map #[] 0)) := hb.alloc (by omega) _
      rw [← eM2] at hM1lt
      have EM2 := Lib.hid eM2
      clear eM2 hM hb
      go_wp2_with fail
      rw [← EM2.out]
      go_loopw [67] (fun i wi => ∃ (k n2 : Nat), k ≤ ws.length ∧ i = .int .i64 k ∧ n2 ≤ k ∧ Hid (IM Try.prog 3 wi w.heap.size n (byF ws ws.length)) ∧ Hid (IM Try.prog 3 wi M2 n2 (waF ws k)) ∧ Below w.heap.size w wi) (fun i _ => ws.length - (intOf i).toNat)
      case atStart => exact ⟨0, 0, Nat.zero_le _, rfl, Nat.le_refl _, h0, h1, hb1⟩
      case round =>
        obtain ⟨k, n2, hk, rfl, hn2, hMa, hMb, hbb⟩ := hrel
        clear h0 h1 hb1
        by_cases hlt : k < ws.length
        · obtain ⟨hv, hc1, hI, hc2⟩ := Hw.out k hlt
          have hd1 : wr.cell? ⟨b, off + k * 2, none⟩ = some hv := (hbb.cell (p := ⟨b, off + k * 2, none⟩) (World.block_lt_of_cell? w _ hc1)).trans hc1
          have hd2 : wr.cell? ⟨b, off + k * 2 + 1, none⟩ = some (.int .i64 (wth ws k).2) := (hbb.cell (p := ⟨b, off + k * 2 + 1, none⟩) (World.block_lt_of_cell? w _ hc2)).trans hc2
          have hwb := hg.wwf k hlt
          obtain ⟨ao1, c1, rfl, _⟩ := hI
          clear hc1 hc2
          have hr := (byF_rng ws ws.length hlen).getD (wth ws k).2
          have hun : waF ws (k + 1) = if (byF ws ws.length (wth ws k).2).isSome && decide (0 ≤ (wth ws k).2) then (fun j => if j = (k : Int) then some ((byF ws ws.length (wth ws k).2).getD 0) else waF ws k j) else waF ws k := rfl
          obtain ⟨p, ep⟩ : ∃ p, p = (wth ws k).2 := ⟨_, rfl⟩
          rw [← ep] at hd2 hwb hr hun
          obtain ⟨u, eu⟩ : ∃ u, u = (byF ws ws.length p).getD 0 := ⟨_, rfl⟩
          rw [← eu] at hr hun
          have EU := Lib.hid eu
          have hp1 : (Lit.int .i64 p).wf = true := wf_i64 (by omega) (by omega)
          have hk1 : (Lit.int .i64 (k : Int)).wf = true := wf_i64 (by omega) (by omega)
          have hu1 : (Lit.int .i64 u).wf = true := wf_i64 (by omega) (by omega)
          have Hp1 := Lib.hid hp1
          have Hk1 := Lib.hid hk1
          have Hu1 := Lib.hid hu1
          have hal : ∀ o, Hid (IM Try.prog 3 (wr.alloc o) w.heap.size n (byF ws ws.length)) := fun o => Lib.hid (hMa.out.fr ((Fr.refl (fun _ => False) wr).alloc _) (by simp))
          have hbl : ∀ o, Hid (IM Try.prog 3 (wr.alloc o) M2 n2 (waF ws k)) := fun o => Lib.hid (hMb.out.fr ((Fr.refl (fun _ => False) wr).alloc _) (by simp))
          have hsz := hbb.size
          have hball : ∀ o, Below w.heap.size w (wr.alloc o) := fun o => hbb.alloc hsz o
          have Hal := Lib.hid hal
          have Hbl := Lib.hid hbl
          clear hal hbl ep eu hp1 hk1 hu1
          have hlt2 : M2 ≠ w.heap.size := by omega
          by_cases hs : (byF ws ws.length p).isSome = true
          · by_cases hp0 : 0 ≤ p
            · have hun2 : waF ws (k + 1) = (fun j => if j = (k : Int) then some u else waF ws k j) := by rw [hun, if_pos (by simp [hs, hp0])]
              have Hun := Lib.hid hun2
              have Hs := Lib.hid hs
              clear hun hun2 hs
              go_wp2_with (first | (at_lookup; refine wpList_look_im _ rfl (.tmp 73) (.tmp 75) 54 3 rfl Try.underlying54 Try.underlying3 (by kernel_rfl) w.heap.size n (byF ws ws.length) rfl (Hal.out _).out p rfl Hp1.out ?_; rw [← EU.out, Hs.out]) | (at_mapUpdate; refine wpList_put_im _ rfl (.tmp 85) (.tmp 86) (.tmp 87) 54 3 rfl Try.underlying54 Try.underlying3 M2 n2 (waF ws k) rfl (Hbl.out _).out (by unfold maxLen; omega) k u rfl rfl Hk1.out Hu1.out ?_))
              intro w3 hM3 hg3
              have HA3 : Hid (IM Try.prog 3 w3 w.heap.size n (byF ws ws.length)) := Lib.hid ((Hal.out _).out.fr (Fr.grown (S := (· = M2)) (Fr.refl _ _) hg3 (fun q hq _ => by injection hq with hq; exact hq.symm)) (fun e => by have e' : w.heap.size = M2 := e; omega))
              have HB3 : Hid (IM Try.prog 3 w3 M2 (n2 + 1) (waF ws (k + 1))) := by rw [Hun.out]; exact Lib.hid hM3
              have hb3 : Below w.heap.size w w3 := (hball _).grown hg3 (by simp; omega) (by intro q hq; injection hq with hq; omega)
              clear hM3 hg3 hMa hMb hd1 hd2 Hal Hbl hball hbb
              go_wp2_with fail
              go_roundw
              case rel => exact ⟨k + 1, n2 + 1, by omega, by go_num, by omega, HA3, HB3, hb3⟩
              case measure => simp [intOf]; omega
            · have hun2 : waF ws (k + 1) = waF ws k := by rw [hun, if_neg (by simp [hp0])]
              have Hun := Lib.hid hun2
              have Hs := Lib.hid hs
              clear hun hun2 hs
              go_wp2_with (at_lookup; refine wpList_look_im _ rfl (.tmp 73) (.tmp 75) 54 3 rfl Try.underlying54 Try.underlying3 (by kernel_rfl) w.heap.size n (byF ws ws.length) rfl (Hal.out _).out p rfl Hp1.out ?_; rw [← EU.out, Hs.out])
              go_roundw
              case rel => exact ⟨k + 1, n2, by omega, by go_num, by omega, Hal.out _, by rw [Hun.out]; exact Hbl.out _, hball _⟩
              case measure => simp [intOf]; omega
          · have hs' : (byF ws ws.length p).isSome = false := by simpa using hs
            have hun2 : waF ws (k + 1) = waF ws k := by rw [hun, if_neg (by simp [hs'])]
            have Hun := Lib.hid hun2
            have Hs := Lib.hid hs'
            clear hun hun2 hs hs'
            go_wp2_with (at_lookup; refine wpList_look_im _ rfl (.tmp 73) (.tmp 75) 54 3 rfl Try.underlying54 Try.underlying3 (by kernel_rfl) w.heap.size n (byF ws ws.length) rfl (Hal.out _).out p rfl Hp1.out ?_; rw [← EU.out, Hs.out])
            go_roundw
            case rel => exact ⟨k + 1, n2, by omega, by go_num, by omega, Hal.out _, by rw [Hun.out]; exact Hbl.out _, hball _⟩
            case measure => simp [intOf]; omega
        · obtain rfl : k = ws.length := by omega
          have hgr := waF_rng ws hlen ws.length
          obtain ⟨g, eg⟩ : ∃ g, g = waF ws ws.length := ⟨_, rfl⟩
          rw [← eg] at hMb hgr
          have EG := Lib.hid eg
          have Hgr := Lib.hid hgr
          clear eg hgr hMa
          go_wp2_with fail
          go_loopw [91] (fun i wi => ∃ k : Nat, k ≤ ws.length ∧ i = .int .i64 k ∧ Hid (IM Try.prog 3 wi M2 n2 (outF g ws.length k)) ∧ Below w.heap.size w wi) (fun i _ => ws.length - (intOf i).toNat)
          case atStart => exact ⟨0, Nat.zero_le _, rfl, hMb, hbb⟩
          case round =>
            obtain ⟨k4, hk4, rfl, hM4, hb4⟩ := hrel
            clear hMb hbb
            by_cases hlt : k4 < ws.length
            · obtain ⟨wo, rfl⟩ : ∃ wo : World, wo = wr := ⟨_, rfl⟩
              go_wp2_with fail
              go_loopw [95] (fun i wi => ∃ k : Nat, k ≤ ws.length ∧ i = .int .i64 k ∧ Hid (IM Try.prog 3 wi M2 n2 (rndF (outF g ws.length k4) k)) ∧ Below w.heap.size w wi) (fun i _ => ws.length - (intOf i).toNat)
              case atStart => exact ⟨0, Nat.zero_le _, rfl, hM4, hb4⟩
              case round =>
                obtain ⟨k5, hk5, rfl, hM5, hb5⟩ := hrel
                clear hM4 hb4
                by_cases hlt5 : k5 < ws.length
                · have hrg := rndF_rng (outF_rng Hgr.out ws.length k4) k5
                  have hst : rndF (outF g ws.length k4) (k5 + 1) = stepF (rndF (outF g ws.length k4) k5) k5 := rfl
                  obtain ⟨G, eG⟩ : ∃ G, G = rndF (outF g ws.length k4) k5 := ⟨_, rfl⟩
                  rw [← eG] at hM5 hrg hst
                  have hr := hrg.getD (k5 : Int)
                  obtain ⟨u, eu⟩ : ∃ u, u = (G (k5 : Int)).getD 0 := ⟨_, rfl⟩
                  unfold stepF at hst
                  rw [← eu] at hr hst
                  have EU := Lib.hid eu
                  have Hst := Lib.hid hst
                  have hk1 : (Lit.int .i64 (k5 : Int)).wf = true := wf_i64 (by omega) (by omega)
                  have hu1 : (Lit.int .i64 u).wf = true := wf_i64 (by omega) (by omega)
                  have Hk1 := Lib.hid hk1
                  have Hu1 := Lib.hid hu1
                  clear eG hrg hst eu hk1 hu1
                  by_cases hs : (G (k5 : Int)).isSome = true
                  · by_cases hs2 : (G u).isSome = true
                    · have Hs := Lib.hid hs
                      have Hs2 := Lib.hid hs2
                      clear hs hs2
                      go_wp2_with (first | (at_lookup; refine wpList_look_im _ rfl (.tmp 99) (.tmp 100) 54 3 rfl Try.underlying54 Try.underlying3 (by kernel_rfl) M2 n2 (G) rfl hM5.out k5 rfl Hk1.out ?_; rw [← EU.out, Hs.out]) | (at_lookup; refine wpList_look_im _ rfl (.tmp 106) (.tmp 107) 54 3 rfl Try.underlying54 Try.underlying3 (by kernel_rfl) M2 n2 (G) rfl hM5.out u rfl Hu1.out ?_; rw [Hs2.out]))
                      go_roundw
                      case rel => exact ⟨k5 + 1, by omega, by go_num, by rw [Hst.out, if_neg (by simp [Hs2.out])]; exact hM5, hb5⟩
                      case measure => simp [intOf]; omega
                    · have hs2' : (G u).isSome = false := by simpa using hs2
                      have Hs := Lib.hid hs
                      have Hs2 := Lib.hid hs2'
                      clear hs hs2 hs2'
                      go_wp2_with (first | (at_lookup; refine wpList_look_im _ rfl (.tmp 99) (.tmp 100) 54 3 rfl Try.underlying54 Try.underlying3 (by kernel_rfl) M2 n2 (G) rfl hM5.out k5 rfl Hk1.out ?_; rw [← EU.out, Hs.out]) | (at_lookup; refine wpList_look_im _ rfl (.tmp 106) (.tmp 107) 54 3 rfl Try.underlying54 Try.underlying3 (by kernel_rfl) M2 n2 (G) rfl hM5.out u rfl Hu1.out ?_; rw [Hs2.out]) | (at_delete; refine wpList_del_im _ rfl (.tmp 113) (.tmp 114) 54 3 rfl Try.underlying54 Try.underlying3 M2 n2 G rfl hM5.out k5 rfl Hk1.out ?_))
                      intro w6 hM6 hg6
                      have HM6 : Hid (IM Try.prog 3 w6 M2 n2 (rndF (outF g ws.length k4) (k5 + 1))) := by
                        rw [Hst.out, if_pos (by simp [Hs.out, Hs2.out])]; exact Lib.hid hM6
                      have hb6 : Below w.heap.size w w6 := hb5.grown hg6 hb5.size (by intro q hq; injection hq with hq; omega)
                      clear hM6 hg6 hM5 hb5
                      go_wp2_with fail
                      go_roundw
                      case rel => exact ⟨k5 + 1, by omega, by go_num, HM6, hb6⟩
                      case measure => simp [intOf]; omega
                  · have hs' : (G (k5 : Int)).isSome = false := by simpa using hs
                    have Hs := Lib.hid hs'
                    clear hs hs'
                    go_wp2_with (at_lookup; refine wpList_look_im _ rfl (.tmp 99) (.tmp 100) 54 3 rfl Try.underlying54 Try.underlying3 (by kernel_rfl) M2 n2 (G) rfl hM5.out k5 rfl Hk1.out ?_; rw [← EU.out, Hs.out])
                    go_roundw
                    case rel => exact ⟨k5 + 1, by omega, by go_num, by rw [Hst.out, if_neg (by simp [Hs.out])]; exact hM5, hb5⟩
                    case measure => simp [intOf]; omega
                · obtain rfl : k5 = ws.length := by omega
                  go_wp2_with fail
                  go_roundw
                  case rel => exact ⟨k4 + 1, by omega, by go_num, hM5, hb5⟩
                  case measure => simp [intOf]; omega
            · obtain rfl : k4 = ws.length := by omega
              obtain ⟨F, eF⟩ : ∃ F, F = outF g ws.length ws.length := ⟨_, rfl⟩
              rw [← eF] at hM4
              have hfin : stuckM ws = resL F ws.length := by rw [eF, EG.out]; rfl
              have Hfin := Lib.hid hfin
              obtain ⟨i0, hi, hz0, hz1, hz2⟩ := info_parts Try.info3
              have Hi := Lib.hid hi
              have Hz0 := Lib.hid hz0
              have Hz1 := Lib.hid hz1
              have Hz2 := Lib.hid hz2
              clear hi hz0 hz1 hz2 eF hfin
              go_wp2_with fail
              go_loopw [21, 119] (fun v i wi => ∃ k : Nat, k ≤ ws.length ∧ i = .int .i64 k ∧ Hid (IM Try.prog 3 wi M2 n2 F) ∧ Hid (wi.ownsRow (M2 + 1) 3 1 v (resL F k).length ((resL F k).map (Value.int .i64))) ∧ Below w.heap.size w wi) (fun _ i _ => ws.length - (intOf i).toNat)
              case atStart => exact ⟨0, Nat.zero_le _, rfl, hM4, World.ownsRow_nil _ _ _ _, hb4⟩
              case round =>
                obtain ⟨k, hk, rfl, hM7, hR7, hb7⟩ := hrel
                clear hM4 hb4
                by_cases hlt : k < ws.length
                · have hk1 : (Lit.int .i64 (k : Int)).wf = true := wf_i64 (by omega) (by omega)
                  have Hk1 := Lib.hid hk1
                  have hrl := resL_len F k
                  have hun : resL F (k + 1) = if (F k).isSome then resL F k ++ [(k : Int)] else resL F k := rfl
                  obtain ⟨u, eu⟩ : ∃ u, u = (F (k : Int)).getD 0 := ⟨_, rfl⟩
                  have EU := Lib.hid eu
                  clear hk1 eu
                  have hsz := hM7.out.lt
                  have hbs := hb7.size
                  by_cases hs : (F (k : Int)).isSome = true
                  · have hun2 : resL F (k + 1) = resL F k ++ [(k : Int)] := by rw [hun, if_pos hs]
                    have Hun := Lib.hid hun2
                    have Hs := Lib.hid hs
                    obtain ⟨L, eL⟩ : ∃ L, L = resL F k := ⟨_, rfl⟩
                    rw [← eL] at hR7 hrl
                    have EL := Lib.hid eL
                    clear hs hun hun2 eL
                    go_wp2_with (first | (at_lookup; refine wpList_look_im _ rfl (.tmp 123) (.tmp 124) 54 3 rfl Try.underlying54 Try.underlying3 (by kernel_rfl) M2 n2 (F) rfl hM7.out k rfl Hk1.out ?_; rw [← EU.out, Hs.out]) | (at_builtin; refine wpList_append_own _ rfl (.tmp 129) (.tmp 131) 23 rfl (M2 + 1) 3 i0 (.int .i64 0) 1 8 Try.underlying23 Hi.out Hz0.out Hz1.out Hz2.out rfl (by decide) _ L.length (L.map (Value.int .i64)) rfl (hR7.out.alloc _) ⟨wr.heap.size, 0, none⟩ 1 1 [.int .i64 (k : Int)] rfl rfl (cell_one_new _ _ _) ?c2 ?c3 ?c4 ?c5 ?_))
                    case c2 => intro q hq; simp at hq; subst hq; rfl
                    case c3 => unfold maxLen; omega
                    case c4 => omega
                    case c5 => simp; omega
                    intro v8 w8 hown8 hgr8 _
                    have HM8 : Hid (IM Try.prog 3 w8 M2 n2 F) := Lib.hid ((hM7.out.fr ((Fr.refl (fun _ => False) wr).alloc _) (by simp)).fr (Fr.grown (S := fun q => M2 + 1 ≤ q) (Fr.refl _ _) hgr8 (fun q hq _ => (hR7.out.lt q hq).1)) (show ¬ (M2 + 1 ≤ M2) from by omega))
                    have hb8 : Below w.heap.size w w8 := (hb7.alloc hbs _).grown hgr8 (by simp; omega) (fun q hq => by have := (hR7.out.lt q hq).1; omega)
                    have HR8 : Hid (w8.ownsRow (M2 + 1) 3 1 v8 (resL F (k + 1)).length ((resL F (k + 1)).map (Value.int .i64))) := by
                      rw [Hun.out, ← EL.out, List.map_append, List.length_append]; exact Lib.hid hown8
                    obtain ⟨ao8, c8, rfl⟩ := owns_form hown8
                    clear hown8 hgr8 hM7 hR7 hb7
                    go_wp2_with fail
                    go_roundw
                    case rel => exact ⟨k + 1, by omega, by go_num, HM8, HR8, hb8⟩
                    case measure => simp [intOf]; omega
                  · have hs' : (F (k : Int)).isSome = false := by simpa using hs
                    have hun2 : resL F (k + 1) = resL F k := by rw [hun, if_neg (by simp [hs'])]
                    have Hun := Lib.hid hun2
                    have Hs := Lib.hid hs'
                    clear hs hs' hun hun2
                    go_wp2_with (at_lookup; refine wpList_look_im _ rfl (.tmp 123) (.tmp 124) 54 3 rfl Try.underlying54 Try.underlying3 (by kernel_rfl) M2 n2 (F) rfl hM7.out k rfl Hk1.out ?_; rw [← EU.out, Hs.out])
                    go_roundw
                    case rel => exact ⟨k + 1, by omega, by go_num, hM7, by rw [Hun.out]; exact hR7, hb7⟩
                    case measure => simp [intOf]; omega
                · obtain rfl : k = ws.length := by omega
                  go_wp2_with fail
                  go_ret2
                  rw [Hfin.out]
                  exact ⟨_, rfl, IsInts.ofRow hR7.out, hb7⟩
end Go.Proofs.Ytnammleaglmjaaa
