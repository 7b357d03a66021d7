/- What picks come to, in plain words; and what lies in memory while they are made. No condition. -/
import Derived.Test.YtnammleaglmjaaaA
import Derived.Test.YtnammleaglmjaaaW2
import Derived.Test.YtnammleaglmjaaaW4
import Derived.Test.YtnammleaglmjaaaW5
import Derived.Test.YtnammleaglmjaaaW7
import Derived.ScopeJumps
namespace Go.Proofs.Ytnammleaglmjaaa
open Go.RowKit

/-- Who has which lock; at which section each job is, and how many of its locks it has; what is done. -/
structure St where
  own : List Int
  at_ : Nat → Nat
  has : Nat → Nat
  dn : List Int

def upd (f : Nat → Nat) (k v : Nat) : Nat → Nat := fun j => if j = k then v else f j
def jobAt (js : List (List (Int × Int))) (k : Nat) : List (Int × Int) := js.getD k []
def secAt (js : List (List (Int × Int))) (ord : Bool) (st : St) (k : Nat) : List Int :=
  secM ((jobAt js k).getD (st.at_ k) (0, 0)).1 ((jobAt js k).getD (st.at_ k) (0, 0)).2 ord
def giveAll (own : List Int) : List Int → Int → List Int
  | [], _ => own
  | l :: r, k => giveAll (giveM own l k).1 r k
def stepM (js : List (List (Int × Int))) (ord : Bool) (st : St) (p : Int) : St :=
  if p < 0 ∨ (js.length : Int) ≤ p then st
  else if st.at_ p.toNat < (jobAt js p.toNat).length then
    if st.has p.toNat < (secAt js ord st p.toNat).length then
      if (takeM st.own (nth (secAt js ord st p.toNat) (st.has p.toNat)) p).2 = 0 then
        { st with own := (takeM st.own (nth (secAt js ord st p.toNat) (st.has p.toNat)) p).1, has := upd st.has p.toNat (st.has p.toNat + 1) }
      else st
    else { own := giveAll st.own (secAt js ord st p.toNat) p, at_ := upd st.at_ p.toNat (st.at_ p.toNat + 1), has := upd st.has p.toNat 0, dn := st.dn ++ [p] }
  else st
def runM (js : List (List (Int × Int))) (ord : Bool) (st : St) (ps : List Int) : St := ps.foldl (stepM js ord) st
def startM (n : Int) : St := { own := (newM n).1, at_ := fun _ => 0, has := fun _ => 0, dn := [] }
def waitM (js : List (List (Int × Int))) (ord : Bool) (st : St) (k : Nat) : List Int × Int :=
  if st.at_ k < (jobAt js k).length then
    ((secAt js ord st k).take (st.has k), if st.has k < (secAt js ord st k).length then nth (secAt js ord st k) (st.has k) else -1)
  else ([], -1)
def waitsM (js : List (List (Int × Int))) (ord : Bool) (st : St) (n : Nat) : List (List Int × Int) := (List.range n).map (waitM js ord st)
/-- What is answered: the locks, the waiters, what is done, the error. -/
structure Ans where
  own : List Int
  ws : List (List Int × Int)
  dn : List Int
  err : Int
def playM (n : Int) (js : List (List (Int × Int))) (ord : Bool) (ps : List Int) : Ans :=
  if (newM n).2 ≠ 0 then ⟨[], [], [], (newM n).2⟩
  else if 64 < js.length ∨ 20000 < ps.length then ⟨[], [], [], 2⟩
  else if rightM n js = false then ⟨[], [], [], 1⟩
  else ⟨(runM js ord (startM n) ps).own, waitsM js ord (runM js ord (startM n) ps) js.length, (runM js ord (startM n) ps).dn, 0⟩

theorem runM_succ (js : List (List (Int × Int))) (ord : Bool) (st : St) (ps : List Int) (k : Nat) (h : k < ps.length) : runM js ord st (ps.take (k + 1)) = stepM js ord (runM js ord st (ps.take k)) (nth ps k) := by
  unfold runM
  rw [List.take_succ_eq_append_getElem h, List.foldl_append, nth_lt h]
  rfl

/-- Nobody has more locks than its section has; few locks, few done. -/
structure SInv (js : List (List (Int × Int))) (ord : Bool) (st : St) (d : Nat) : Prop where
  at_ : ∀ k, k < js.length → st.at_ k ≤ (jobAt js k).length
  has : ∀ k, k < js.length → st.at_ k < (jobAt js k).length → st.has k ≤ (secAt js ord st k).length
  own : st.own.length ≤ 65
  dn : st.dn.length ≤ d

theorem secM_len (a b : Int) (ord : Bool) : 1 ≤ (secM a b ord).length ∧ (secM a b ord).length ≤ 2 := by
  unfold secM; split
  · simp
  · split <;> simp

theorem takeM_len (own : List Int) (l k : Int) : (takeM own l k).1.length ≤ own.length := by
  unfold takeM; split
  · simp
  · split
    · simp
    · split <;> simp
theorem giveM_len (own : List Int) (l k : Int) : (giveM own l k).1.length ≤ own.length := by
  unfold giveM; split
  · simp
  · split <;> simp
theorem giveAll_len (ls : List Int) : ∀ (own : List Int) (k : Int), (giveAll own ls k).length ≤ own.length := by
  induction ls with
  | nil => intro own k; exact Nat.le_refl _
  | cons l r ih => intro own k; exact Nat.le_trans (ih _ k) (giveM_len _ _ _)

theorem giveAll_snoc (ls : List Int) (x : Int) : ∀ (own : List Int) (k : Int), giveAll own (ls ++ [x]) k = (giveM (giveAll own ls k) x k).1 := by
  induction ls with
  | nil => intro own k; rfl
  | cons l r ih => intro own k; simp only [List.cons_append, giveAll]; exact ih _ k

theorem secAt_other (js : List (List (Int × Int))) (ord : Bool) (st st' : St) (k : Nat) (h : st'.at_ k = st.at_ k) : secAt js ord st' k = secAt js ord st k := by
  unfold secAt; rw [h]

theorem sInv_start (js : List (List (Int × Int))) (ord : Bool) (n : Int) : SInv js ord (startM n) 0 := by
  refine ⟨fun k hk => Nat.zero_le _, fun k hk h => Nat.zero_le _, ?_, Nat.le_refl _⟩
  unfold startM newM
  split
  · simp
  · simp; omega

theorem sInv_step {js : List (List (Int × Int))} {ord : Bool} {st : St} {d : Nat} (h : SInv js ord st d) (p : Int) : SInv js ord (stepM js ord st p) (d + 1) := by
  unfold stepM
  split
  · exact ⟨h.at_, h.has, h.own, Nat.le_succ_of_le h.dn⟩
  · split
    · split
      · split
        · refine ⟨h.at_, ?_, Nat.le_trans (takeM_len _ _ _) h.own, Nat.le_succ_of_le h.dn⟩
          intro k hk hlt
          have e : secAt js ord { st with own := (takeM st.own (nth (secAt js ord st p.toNat) (st.has p.toNat)) p).1, has := upd st.has p.toNat (st.has p.toNat + 1) } k = secAt js ord st k := secAt_other _ _ _ _ _ rfl
          rw [e]
          simp only [upd]
          split
          · rename_i ek; subst ek; omega
          · exact h.has k hk hlt
        · exact ⟨h.at_, h.has, h.own, Nat.le_succ_of_le h.dn⟩
      · refine ⟨?_, ?_, Nat.le_trans (giveAll_len _ _ _) h.own, ?_⟩
        · intro k hk
          simp only [upd]
          split
          · rename_i ek; subst ek; omega
          · exact h.at_ k hk
        · intro k hk hlt
          simp only [upd] at hlt ⊢
          split
          · exact Nat.zero_le _
          · rename_i ek
            rw [if_neg ek] at hlt
            have e := secAt_other js ord st { own := giveAll st.own (secAt js ord st p.toNat) p, at_ := fun j => if j = p.toNat then st.at_ p.toNat + 1 else st.at_ j, has := fun j => if j = p.toNat then 0 else st.has j, dn := st.dn ++ [p] } k (by simp [ek])
            exact e ▸ h.has k hk hlt
        · have := h.dn; simp; omega
    · exact ⟨h.at_, h.has, h.own, Nat.le_succ_of_le h.dn⟩

theorem sInv_run (js : List (List (Int × Int))) (ord : Bool) (n : Int) (ps : List Int) (k : Nat) (hk : k ≤ ps.length) : SInv js ord (runM js ord (startM n) (ps.take k)) k := by
  induction k with
  | zero => exact sInv_start js ord n
  | succ k ih =>
    rw [runM_succ _ _ _ _ _ (by omega)]
    exact sInv_step (ih (by omega)) _

section
variable {P : Program} {a : Act} {w : World} {Q : Exit → Act → World → Prop}
/-- A scope with one label to which the run jumps: what is shown of a pass serves the first way to the label too. -/
theorem wp_scope_jumps2 {c rest : Code} (l : Nat) (J : Act → World → Prop) (μ : Act → World → Nat) (hf : findLabel c l = some (.seq .skip rest))
    (pass : ∀ a w, J a w → rest.wp P (Exit.jump l (fun a' w' => J a' w' ∧ μ a' w' < μ a w) Q) a w)
    (first : (∀ a w, J a w → rest.wp P (Exit.jump l J Q) a w) → c.wp P (Exit.jump l J Q) a w) : (Code.scope c).wp P Q a w :=
  wp_scope_jumps l J μ hf (first fun a w h => wp_mono (pass a w h) fun e a' w' q => by
    cases e with
    | goto l' => exact ⟨q.1, q.2.1⟩
    | _ => exact q) (fun a w h => wp_seq (wp_skip (pass a w h)))
end
end Go.Proofs.Ytnammleaglmjaaa
