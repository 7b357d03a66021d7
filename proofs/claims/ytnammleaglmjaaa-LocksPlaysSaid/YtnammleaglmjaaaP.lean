/- The statement, proved: whatever the input, the law answers true, and the input reads as it did. No condition. -/
import Derived.Test.YtnammleaglmjaaaW20
import Derived.Test.YtnammleaglmjaaaRows
import Derived.ProofKit
import Derived.SizedLaws
import Derived.Deep.Slices
import Derived.Lib.SmallJoins
import Derived.Laws.IdiomArrays
namespace Go.Proofs.Ytnammleaglmjaaa
open Go.ChangeShapes Go.WideShapes Go.ChangeAt Go.RowKit
set_option linter.unusedVariables false

theorem Try.own : ownKnob Try.prog.godebug = none := by kernel_rfl
theorem Try.laidOut : laidOutB Try.prog = true := by kernel_rfl
theorem Try.cells26 : Try.prog.cellsOf 26 = 1 := by kernel_rfl
theorem Try.cells37 : Try.prog.cellsOf 37 = 2 := by kernel_rfl
theorem Try.cells3 : Try.prog.cellsOf 3 = 1 := by kernel_rfl
theorem Try.cells25 : Try.prog.cellsOf 25 = 4 := by kernel_rfl
theorem Try.bytes3 : Try.prog.bytesOf 3 = 8 := by kernel_rfl
theorem Try.bytes26 : Try.prog.bytesOf 26 = 24 := by kernel_rfl
theorem Try.bytes37 : Try.prog.bytesOf 37 = 16 := by kernel_rfl

theorem trod_array2 {H : Type} {enc : TypeId × Value → H} {P : Program} {w : World} {base : Nat} {spare : Nat → Bool} {held : Bool} {t e : TypeId} {fuel : Nat} {c0 c1 : Value} {x : DataW H × List MemPlace} (ht : P.underlying t = some (.array 2 e)) (hce : P.cellsOf e = 1)
    (h : DataW.trod enc P w base spare held fuel t [c0, c1] = some x) : ∃ y0 y1 n, DataW.trod enc P w base spare held n e [c0] = some y0 ∧ DataW.trod enc P w base spare held n e [c1] = some y1 := by
  cases fuel with
  | zero => simp [DataW.trod] at h
  | succ n =>
    unfold DataW.trod at h
    rw [ht] at h
    have r2 : List.range 2 = [0, 1] := rfl
    simp [r2, hce] at h
    obtain ⟨_, h⟩ := h
    cases h0 : DataW.trod enc P w base spare held n e [c0] with
    | none => simp [h0] at h
    | some y0 =>
      cases h1 : DataW.trod enc P w base spare held n e [c1] with
      | none => simp [h0, h1] at h
      | some y1 => exact ⟨y0, y1, n, h0, h1⟩

section
variable {H : Type} {enc : TypeId × Value → H} {W : World} {base : Nat} {spare : Nat → Bool} {held : Bool}

/-- A job, opened. -/
theorem open_job {fuel : Nat} {v : Value} {x : DataW H × List MemPlace} (h : DataW.trod enc Try.prog W base spare held fuel 26 [v] = some x) (hw : ∀ n ∈ x.1.weights Try.prog 26, n ≤ reachBytes) : ∃ l, IsJob W v l ∧ l.length ≤ 140737488351232 := by
  rcases Deep.open_slice Try.underlying26 h with ⟨hv, _⟩ | ⟨a, len, cap, m, n, D, Pl, hv, _, hl, _, hm, rfl, hx⟩
  · injection hv with hv
    exact ⟨[], .inl ⟨hv, rfl⟩, by simp⟩
  · injection hv with hv
    subst hv
    have hlm : len ≤ m := by rw [hm]; split <;> omega
    have hbytes : len * 16 ≤ reachBytes := by
      have := hw (((List.range len).map D).length + ((List.range (m - len)).map fun j => D (len + j)).length |> (· * Try.prog.bytesOf 37)) (by simp [DataW.weights, Try.underlying26])
      rw [Try.bytes37] at this
      simp at this
      omega
    have hex : ∀ i, i < len → ∃ q : Int × Int, W.cell? (a.add (i * 2)) = some (.int .i64 q.1) ∧ W.cell? ((a.add (i * 2)).add 1) = some (.int .i64 q.2) := by
      intro i hi
      obtain ⟨cs, h1, h2⟩ := hx i (by omega)
      rw [Try.cells37] at h1
      obtain ⟨_, hlen, hc⟩ := World.cells?_some h1
      match cs, hlen with
      | [c0, c1], _ =>
        obtain ⟨y0, y1, k, t0, t1⟩ := trod_array2 Try.underlying37 Try.cells3 h2
        obtain ⟨n0, e0, _⟩ := DataW.trod_int Try.underlying3 t0
        obtain ⟨n1, e1, _⟩ := DataW.trod_int Try.underlying3 t1
        injection e0 with e0
        injection e1 with e1
        subst e0 e1
        refine ⟨(n0, n1), ?_, hc 1 (by omega)⟩
        have := hc 0 (by omega)
        simpa [Addr.add] using this
    obtain ⟨F, hF⟩ := Deep.choose_lt hex
    refine ⟨(List.range len).map F, ?_, by have : reachBytes = 140737488351232 := rfl; simp; omega⟩
    by_cases h0 : len = 0
    · subst h0
      exact .inr ⟨a, cap, rfl, .inl rfl⟩
    · obtain ⟨b, off, spot⟩ := a
      have hspot : spot = none := by simpa [Addr.add] using World.cell?_spot (hF 0 (by omega)).1
      subst hspot
      have hadd : ∀ o j, (⟨b, o, none⟩ : Addr).add j = ⟨b, o + j, none⟩ := fun o j => by unfold Addr.add; split <;> simp_all
      refine .inr ⟨_, cap, by simp, .inr ⟨b, off, rfl, fun i hi => ?_⟩⟩
      have hi : i < len := by simpa using hi
      obtain ⟨g1, g2⟩ := hF i hi
      rw [hadd] at g1
      rw [hadd, hadd] at g2
      simp only [List.getD, List.getElem?_map, List.getElem?_range hi, Option.map_some, Option.getD_some]
      exact ⟨g1, g2⟩

theorem weightsAll_mem {P : Program} {e : TypeId} : ∀ {l : List (DataW H)} {d : DataW H}, d ∈ l → ∀ n ∈ d.weights P e, n ∈ DataW.weightsAll P e l
  | [], _, hd, _, _ => by simp at hd
  | x :: l, d, hd, n, hn => by
    simp only [DataW.weightsAll, List.mem_append]
    rcases List.mem_cons.1 hd with rfl | h
    · exact Or.inl hn
    · exact Or.inr (weightsAll_mem h n hn)

/-- Jobs, opened. -/
theorem open_jobs {fuel : Nat} {v : Value} {x : DataW H × List MemPlace} (h : DataW.trod enc Try.prog W base spare held fuel 22 [v] = some x) (hw : ∀ n ∈ x.1.weights Try.prog 22, n ≤ reachBytes) :
    ∃ js, IsJobs W v js ∧ js.length ≤ 140737488351232 ∧ ∀ i, i < js.length → (jobAt js i).length ≤ 140737488351232 := by
  rcases Deep.open_slice1 Try.underlying22 Try.cells26 h with ⟨hv, _⟩ | ⟨a, len, cap, m, n, V, D, Pl, hv, _, hl, _, hm, rfl, hx⟩
  · injection hv with hv
    exact ⟨[], ⟨none, 0, hv, .inl rfl⟩, by simp, fun i hi => by simp at hi⟩
  · injection hv with hv
    subst hv
    have hlm : len ≤ m := by rw [hm]; split <;> omega
    have hbytes : len * 24 ≤ reachBytes := by
      have := hw (((List.range len).map D).length + ((List.range (m - len)).map fun j => D (len + j)).length |> (· * Try.prog.bytesOf 26)) (by simp [DataW.weights, Try.underlying22])
      rw [Try.bytes26] at this
      simp at this
      omega
    have hex : ∀ i, i < len → ∃ l, IsJob W (V i) l ∧ l.length ≤ 140737488351232 := by
      intro i hi
      refine open_job (hx i (by omega)).2 fun k hk => hw k ?_
      simp only [DataW.weights, Try.underlying22, List.mem_cons, List.mem_append]
      exact .inr (.inl (weightsAll_mem (List.mem_map.2 ⟨i, by simpa using hi, rfl⟩) k hk))
    obtain ⟨F, hF⟩ := Deep.choose_lt hex
    have hget : ∀ i, i < len → ((List.range len).map F).getD i [] = F i := fun i hi => by simp [List.getD, hi]
    refine ⟨(List.range len).map F, ?_, by have : reachBytes = 140737488351232 := rfl; simp; omega, fun i hi => ?_⟩
    · refine ⟨some a, cap, by simp, ?_⟩
      by_cases h0 : len = 0
      · exact .inl (by simp [h0])
      · obtain ⟨b, off, spot⟩ := a
        have hspot : spot = none := by simpa [Addr.add] using World.cell?_spot (hx 0 (by omega)).1
        subst hspot
        have hadd : ∀ o j, (⟨b, o, none⟩ : Addr).add j = ⟨b, o + j, none⟩ := fun o j => by unfold Addr.add; split <;> simp_all
        refine .inr ⟨b, off, rfl, fun i hi => ?_⟩
        have hi : i < len := by simpa using hi
        refine ⟨V i, by rw [← hadd]; exact (hx i (by omega)).1, ?_⟩
        rw [hget i hi]
        exact (hF i hi).1
    · have hi : i < len := by simpa using hi
      unfold jobAt
      rw [hget i hi]
      exact (hF i hi).2

/-- Picks, opened. -/
theorem open_picks {fuel : Nat} {v : Value} {x : DataW H × List MemPlace} (h : DataW.trod enc Try.prog W base spare held fuel 23 [v] = some x) (hw : ∀ n ∈ x.1.weights Try.prog 23, n ≤ reachBytes) :
    ∃ ps, IsInts W v ps ∧ ps.length ≤ 140737488351232 := by
  rcases open_ints Try.underlying23 Try.underlying3 Try.cells3 h with ⟨hv, _⟩ | ⟨a, len, cap, zs, hv, _, hl, _, hz, rfl, hc, _⟩
  · injection hv with hv
    subst hv
    exact ⟨[], IsInts.nil _, by simp⟩
  · injection hv with hv
    subst hv
    have hlz : len ≤ zs.length := by rw [hz]; split <;> omega
    have hbytes : len * 8 ≤ reachBytes := by
      have := hw (((lits (H := H) .i64 (zs.take len)).length + (lits (H := H) .i64 (zs.drop len)).length) * Try.prog.bytesOf 3) (by simp [DataW.weights, Try.underlying23])
      rw [Try.bytes3] at this
      simp [lits] at this
      omega
    have ht : (zs.take len).length = len := by rw [List.length_take]; omega
    refine ⟨zs.take len, ⟨some a, cap, by rw [ht], ?_⟩, by have : reachBytes = 140737488351232 := rfl; rw [ht]; omega⟩
    by_cases h0 : len = 0
    · exact .inl (by rw [ht, h0])
    · obtain ⟨b, off, spot⟩ := a
      have hspot : spot = none := by simpa [Addr.add] using World.cell?_spot (hc 0 (by omega))
      subst hspot
      have hadd : ∀ o j, (⟨b, o, none⟩ : Addr).add j = ⟨b, o + j, none⟩ := fun o j => by unfold Addr.add; split <;> simp_all
      refine .inr ⟨b, off, rfl, fun i hi => ?_⟩
      rw [ht] at hi
      rw [← hadd, hc i (by omega)]
      simp [nth, List.getD, List.getElem?_take, hi]
end

theorem contract (H : Type) (enc : TypeId × Value → H) (W : World) (base : Nat) (args : Array Value) (ds gs : List (DataW H)) (before : List MemPlace)
    (hval : ∀ (j : Nat) t v, Try.f3.params[j]? = some t → args[j]? = some v → Value.okWide Try.prog W .any base t v)
    (hW : DataW.Whole enc Try.prog Try.f3.params.toList Rows.locksPlaysSpec.vars false W args.toList ds gs before)
    (hsz : (DataW.weightsEach Try.prog (Try.f3.params.toList ++ Rows.locksPlaysSpec.plain.varTypes Try.prog) (ds ++ gs)).all (· ≤ reachBytes) = true) :
    Calls Try.prog 3 args W fun e W' => ∃ v, e = .returned v ∧ Rows.locksPlaysSpec.post enc Try.prog Try.f3 false true false false W args v W' := by
  have hW' := hW
  obtain ⟨p, q, hA0, hV, rfl, hfz, hnd⟩ := hW
  have hA : DataW.TrodAll enc Try.prog W 0 (fun _ => true) true Try.f3.params.toList args.toList ds p := hA0
  rw [Try.params3] at hA hval hsz
  obtain ⟨v0, d0, rfl, rfl, h0⟩ := trodAll_one hA
  obtain ⟨rfl, rfl⟩ := trodVars_none hV
  have h0k := h0
  obtain ⟨x0, x1, x2, x3, y0, y1, y2, y3, n, rfl, rfl, hp, t0, t1, t2, t3⟩ := Joins.open_agg4 Try.underlying25 (by kernel_rfl) Try.cells25 (hval 0 25 v0 rfl rfl) h0
  clear hA0
  simp only [List.append_nil] at hW'
  have hlt : ∀ x ∈ p, x.block < W.heap.size := fun x hx => by simpa using hW'.lt x hx
  have hargs : ∀ (W' : World), Below W.heap.size W W' → DataW.Trod enc Try.prog W' 0 (fun b => decide (b < W.heap.size)) true 25 (.agg #[x0, x1, x2, x3]) (.agg [y0.1, y1.1, y2.1, y3.1]) p :=
    fun W' hn => Below.trod Try.laidOut (by kernel_rfl) (of_decide_eq_true (by kernel_rfl)) h0k hn hlt
  have hwt : ∀ k ∈ DataW.weightsEach Try.prog [3, 22, 4, 23] [y0.1, y1.1, y2.1, y3.1], k ≤ reachBytes := by
    intro k hk
    refine of_decide_eq_true (List.all_eq_true.1 hsz k (DataW.weights_mem_each (j := 0) rfl rfl k ?_))
    simp only [DataW.weights, Try.underlying25]
    exact hk
  obtain ⟨N, e0, _⟩ := DataW.trod_int Try.underlying3 t0
  injection e0 with e0
  obtain ⟨B, e2, _⟩ := DataW.trod_bool Try.underlying4 t2
  injection e2 with e2
  subst e0 e2
  obtain ⟨js, hj, hl1, hl2⟩ := open_jobs t1 (fun k hk => hwt k (DataW.weights_mem_each (j := 1) rfl rfl k hk))
  obtain ⟨ps, hps, hl3⟩ := open_picks t3 (fun k hk => hwt k (DataW.weights_mem_each (j := 3) rfl rfl k hk))
  refine (law_any N x1 x3 js B ps W hj hps hl1 hl2 hl3).mono fun e W' ⟨he, hb⟩ => ?_
  subst he
  exact ⟨_, rfl, _, _, _, [], p ++ [], [], hW', trodAll_cons_mk (shut_bool Try.underlying4 _) trodAll_mk0, trodAll_cons_mk (hargs _ hb) trodAll_mk0, rfl, hb.frame _, fun h => by cases h⟩

set_option maxRecDepth 100000 in
theorem lifted (os : Os) (started : os.Started) (H : Type) (enc : TypeId × Value → H) :
    ReturnsInHanded {} Try.checked os 3 .any (Rows.locksPlaysSpec.pre6 enc Try.prog Try.f3 Rows.locksPlaysRow.domain false) (Rows.locksPlaysSpec.post enc Try.prog Try.f3 false true false false) := by
  refine returnsInHanded_of_change_sized (C := Try.checked) Try.own started (by kernel_rfl) Try.func3
    (ChangeSpec.witness6 (enc := enc) (C := Try.checked) false ⟨#[], #[.agg #[.int .i64 0, .slice none 0 0, .bool false, .slice none 0 0]], []⟩ 8 (by kernel_rfl) (by kernel_rfl) (by kernel_rfl) (by kernel_rfl)) ?_
  intro W base args ds gs before hval hW _ hsz _
  exact contract H enc W base args ds gs before hval hW hsz

theorem locksPlays_holds : Rows.LocksPlaysSaid :=
  OpenClaim.holds_of_wide 3 Try.f3 rfl rfl rfl rfl rfl rfl rfl ⟨rfl, rfl, rfl, rfl, rfl⟩ rfl rfl rfl rfl rfl (by kernel_rfl) Try.func3 (by kernel_rfl)
    (of_decide_eq_true (by kernel_rfl)) (by unfold Func.isWrapper; first | (rw [if_pos (by decide +kernel)]; kernel_rfl) | (rw [if_neg (by decide +kernel)]; exact ⟨rfl, rfl⟩))
    (fun os started H enc _ => lifted os started H enc)
end Go.Proofs.Ytnammleaglmjaaa
