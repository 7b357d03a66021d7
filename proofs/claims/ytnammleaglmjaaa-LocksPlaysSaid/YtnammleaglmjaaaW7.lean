/- All sections of all jobs, in one row; are they of locks that there are? No condition. -/
import Derived.Test.YtnammleaglmjaaaW4
import Derived.Test.YtnammleaglmjaaaW5
import Derived.Test.YtnammleaglmjaaaShelg
import Derived.Laws.AppendOwnNone
namespace Go.Proofs.Ytnammleaglmjaaa
open Go.RowKit

/-- The jobs lie in a slice value. -/
def IsJobs (w : World) (v : Value) (js : List (List (Int × Int))) : Prop :=
  ∃ ao cap, v = .slice ao js.length cap ∧ (js.length = 0 ∨ ∃ b off, ao = some ⟨b, off, none⟩ ∧ ∀ i, i < js.length → ∃ jv, w.cell? ⟨b, off + i, none⟩ = some jv ∧ IsJob w jv (js.getD i []))

/-- The cells of sections. -/
def fl (l : List (Int × Int)) : List Value := l.flatMap fun s => [.int .i64 s.1, .int .i64 s.2]

theorem fl_length (l : List (Int × Int)) : (fl l).length = l.length * 2 := by
  induction l with
  | nil => rfl
  | cons a l ih => simp [fl] at ih ⊢; omega
theorem fl_append (a b : List (Int × Int)) : fl (a ++ b) = fl a ++ fl b := by simp [fl]
theorem fl_one (l : List (Int × Int)) : ∀ v ∈ fl l, v.oneCell' = true := by
  intro v hv
  simp [fl] at hv
  obtain ⟨a, b, _, rfl | rfl⟩ := hv <;> rfl
theorem fl_even (l : List (Int × Int)) : ∀ i, (fl l)[i * 2]? = (l[i]?).map (fun s => Value.int .i64 s.1) := by
  induction l with
  | nil => intro i; simp [fl]
  | cons a l ih =>
    intro i
    cases i with
    | zero => simp [fl]
    | succ i =>
      have := ih i
      rw [show (i + 1) * 2 = i * 2 + 1 + 1 by omega]
      simpa [fl] using this
theorem fl_odd (l : List (Int × Int)) : ∀ i, (fl l)[i * 2 + 1]? = (l[i]?).map (fun s => Value.int .i64 s.2) := by
  induction l with
  | nil => intro i; simp [fl]
  | cons a l ih =>
    intro i
    cases i with
    | zero => simp [fl]
    | succ i =>
      have := ih i
      rw [show (i + 1) * 2 + 1 = i * 2 + 1 + 1 + 1 by omega]
      simpa [fl] using this

theorem fl_cells {w : World} {b off : Nat} {l : List (Int × Int)} (h : JCells w b off l) : ∀ j u, (fl l)[j]? = some u → w.cell? ((⟨b, off, none⟩ : Addr).add j) = some u := by
  intro j u hj
  have hadd : (⟨b, off, none⟩ : Addr).add j = ⟨b, off + j, none⟩ := by unfold Addr.add; split <;> simp_all
  rw [hadd]
  obtain ⟨i, rfl | rfl⟩ : ∃ i, j = i * 2 ∨ j = i * 2 + 1 := ⟨j / 2, by omega⟩
  · rw [fl_even] at hj
    obtain ⟨s, hs, rfl⟩ := Option.map_eq_some_iff.1 hj
    have hi : i < l.length := (List.getElem?_eq_some_iff.1 hs).1
    rw [(h i hi).1]; simp [List.getD, hs]
  · rw [fl_odd] at hj
    obtain ⟨s, hs, rfl⟩ := Option.map_eq_some_iff.1 hj
    have hi : i < l.length := (List.getElem?_eq_some_iff.1 hs).1
    rw [← Nat.add_assoc, (h i hi).2]; simp [List.getD, hs]

/-- How many sections the first k jobs have. -/
def cnt (js : List (List (Int × Int))) (k : Nat) : Nat := (js.take k).flatten.length
theorem cnt_succ (js : List (List (Int × Int))) (k : Nat) (h : k < js.length) : cnt js (k + 1) = cnt js k + (js.getD k []).length := by
  unfold cnt; rw [List.take_succ_eq_append_getElem h, List.flatten_append, List.length_append]; simp only [List.flatten_cons, List.flatten_nil, List.append_nil]; simp [List.getD, h]
theorem cnt_le (js : List (List (Int × Int))) (k : Nat) : cnt js k ≤ cnt js js.length := by
  unfold cnt
  rw [List.take_length]
  have h : js.flatten.length = (js.take k).flatten.length + (js.drop k).flatten.length := by
    rw [← List.length_append, ← List.flatten_append, List.take_append_drop]
  omega
theorem cnt_all (js : List (List (Int × Int))) : cnt js js.length = js.flatten.length := by simp [cnt]

theorem Try.info37 : (Try.prog.info? 37).map (fun i => (i.zero, i.size, i.bytes)) = some (some (.agg #[.int .i64 0, .int .i64 0]), 2, 16) := by kernel_rfl

/-- A new row, of room for so many. -/
theorem grow_any (n : Nat) (w : World) (hn : n ≤ 1000) : Calls Try.prog 30 #[.slice none 0 0, .int .i64 (n : Int)] w fun e w' => ∃ v', e = .returned v' ∧ w'.ownsRow w.heap.size 37 2 v' 0 [] ∧ Below w.heap.size w w' := by
  by_cases h0 : n = 0
  · subst h0
    refine (Any8.slices_Grow_room Try.growA none 0 0 0 w (by omega) (by omega) (by omega) (by omega)).mono ?_
    rintro e w' ⟨rfl, rfl⟩
    exact ⟨_, rfl, World.ownsRow_nil _ _ _ _, Below.refl _ _⟩
  · obtain ⟨i0, hi, hz0, hz1, hz2⟩ := info_parts Try.info37
    refine (Any8.slices_Grow_grow Try.growA i0 _ hi hz0 (by omega) none 0 0 n [] w (by omega) (by omega) (by rw [hz2]; omega) (by omega) (by simp) (by simp) (by simp)).mono ?_
    rintro e w' ⟨rfl, rfl⟩
    refine ⟨_, rfl, ?_, ((Below.refl _ _).drew).alloc (Nat.le_refl _) _⟩
    refine World.ownsRow_made w.drew _ _ (Nat.le_refl _) (grownCap_le_maxLen _ _ _ _ (by unfold maxLen; omega)) ?_
    have hge := grownCap_ge w (0 + n) 0 37
    simp only [Nat.zero_add] at hge
    simp [size_zeroCells, Value.cells, Try.growA_ren]
    omega

set_option maxHeartbeats 1600000 in
theorem concat_any (b off c : Nat) (js : List (List (Int × Int))) (w : World) (hn : 0 < js.length) (hl : js.length ≤ 1000) (ht : cnt js js.length ≤ 1000)
    (hj : ∀ i, i < js.length → ∃ jv, w.cell? ⟨b, off + i, none⟩ = some jv ∧ IsJob w jv (js.getD i [])) :
    Calls Try.prog 23 #[.slice (some ⟨b, off, none⟩) js.length c] w fun e w' => ∃ v', e = .returned v' ∧ w'.ownsRow w.heap.size 37 2 v' js.flatten.length (fl js.flatten) ∧ Below w.heap.size w w' := by
  have Hj := Lib.hid hj
  clear hj
  obtain ⟨i0, hi, hz0, hz1, hz2⟩ := info_parts Try.info37
  have Hi := Lib.hid hi
  have Hz0 := Lib.hid hz0
  have Hz1 := Lib.hid hz1
  have Hz2 := Lib.hid hz2
  clear hi hz0 hz1 hz2
  go_enter Try.func23, Try.ntmps23
  go_wp2
  go_loop [3, 11] (fun s i => ∃ k : Nat, k ≤ js.length ∧ s = .int .i64 (cnt js k) ∧ i = .int .i64 k) (fun _ i => js.length - (intOf i).toNat)
  case atStart => exact ⟨0, Nat.zero_le _, rfl, rfl⟩
  case round =>
    obtain ⟨k, hk, rfl, rfl⟩ := hrel
    have hck := cnt_le js k
    by_cases hlt : k < js.length
    · obtain ⟨jv, hc, hJ⟩ := Hj.out k hlt
      have hcs := cnt_succ js k hlt
      have hck1 := cnt_le js (k + 1)
      have Hcs := Lib.hid hcs
      have hjl : (js.getD k []).length ≤ 1000 := by omega
      have hsum : cnt js k + (js.getD k []).length ≤ 1000 := by omega
      obtain ⟨L, eL⟩ : ∃ L, L = (js.getD k []).length := ⟨_, rfl⟩
      obtain ⟨ao, cap, rfl, _⟩ := hJ.form
      rw [← eL] at hc hjl hsum
      have EL := Lib.hid eL
      clear hcs eL hJ
      go_wp2
      go_round
      case rel => exact ⟨k + 1, by omega, by rw [Hcs.out, ← EL.out]; go_num, by go_num⟩
      case measure => simp [intOf]; omega
    · obtain rfl : k = js.length := by omega
      go_wp2_with fail
      refine (grow_any _ _ ht).mono ?_
      rintro e w1 ⟨v1, rfl, hr1, hb1⟩
      obtain ⟨ao1, c1, rfl⟩ := owns_form hr1
      go_wp2_with fail
      go_loopw [6, 27] (fun v i wr => ∃ k : Nat, k ≤ js.length ∧ i = .int .i64 k ∧ Hid (wr.ownsRow w.heap.size 37 2 v (cnt js k) (fl (js.take k).flatten)) ∧ Below w.heap.size w wr) (fun _ i _ => js.length - (intOf i).toNat)
      case atStart => exact ⟨0, Nat.zero_le _, rfl, Lib.hid (by simpa [cnt, fl] using hr1), hb1⟩
      case round =>
        obtain ⟨k, hk, rfl, hown, hb⟩ := hrel
        have hck := cnt_le js k
        clear hr1 hb1
        by_cases hlt : k < js.length
        · obtain ⟨jv, hc, hJ⟩ := Hj.out k hlt
          have hc' : wr.cell? ⟨b, off + k, none⟩ = some jv := (hb.cell (p := ⟨b, off + k, none⟩) (World.block_lt_of_cell? w _ hc)).trans hc
          have hcs := cnt_succ js k hlt
          have hck1 := cnt_le js (k + 1)
          have Hcs := Lib.hid hcs
          have hfs : fl (js.take (k + 1)).flatten = fl (js.take k).flatten ++ fl (js.getD k []) := by
            rw [List.take_succ_eq_append_getElem hlt, List.flatten_append, fl_append]; simp [List.getD, hlt]
          have Hfs := Lib.hid hfs
          have hsum : cnt js k + (js.getD k []).length ≤ 1000 := by omega
          obtain ⟨L, eL⟩ : ∃ L, L = js.getD k [] := ⟨_, rfl⟩
          rw [← eL] at hJ hsum
          have EL := Lib.hid eL
          clear hcs eL hc hfs
          have hsz := hb.size
          rcases hJ with ⟨rfl, rfl⟩ | ⟨a, cap, rfl, hcells⟩
          · go_wp2_with (at_builtin; refine wpList_append_own_none rfl (.tmp 31) (.tmp 32) 26 rfl w.heap.size 37 i0 2 Try.underlying26 Hi.out _ _ _ rfl hown.out rfl ?_)
            go_roundw
            case rel => exact ⟨k + 1, by omega, by go_num, by rw [Hcs.out, Hfs.out, ← EL.out]; exact Lib.hid (by simpa [fl] using hown.out), hb⟩
            case measure => simp [intOf]; omega
          · have hnews : ∀ j u, (fl L)[j]? = some u → wr.cell? (a.add j) = some u := by
              rcases hcells with h0 | ⟨jb, jo, rfl, hcl⟩
              · obtain rfl : L = [] := List.eq_nil_of_length_eq_zero h0
                intro j u hj; simp [fl] at hj
              · intro j u hj
                have h1 := fl_cells hcl j u hj
                exact (hb.cell (p := (⟨jb, jo, none⟩ : Addr).add j) (World.block_lt_of_cell? w _ h1)).trans h1
            have Hnews := Lib.hid hnews
            clear hnews hcells
            go_wp2_with (at_builtin; refine wpList_append_own _ rfl (.tmp 31) (.tmp 32) 26 rfl w.heap.size 37 i0 _ 2 16 Try.underlying26 Hi.out Hz0.out Hz1.out Hz2.out rfl (by decide) _ _ _ rfl hown.out a L.length cap (fl L) rfl (fl_length L) Hnews.out (fl_one L) ?c3 ?c4 ?c5 ?_)
            case c3 => unfold maxLen; omega
            case c4 => omega
            case c5 => exact hb.size
            intro v' w2 hown2 hgr _
            have hb2 : Below w.heap.size w w2 := hb.grown hgr hb.size (fun k hk => (hown.out.lt _ hk).1)
            have Hown2 := Lib.hid hown2
            obtain ⟨ao2, c2, rfl⟩ := owns_form hown2
            clear hown2 hgr Hnews
            go_wp2_with fail
            go_roundw
            case rel => exact ⟨k + 1, by omega, by go_num, by rw [Hcs.out, Hfs.out, ← EL.out]; exact Hown2.out, hb2⟩
            case measure => simp [intOf]; omega
        · obtain rfl : k = js.length := by omega
          go_wp2_with fail
          go_ret
          exact ⟨_, rfl, by have h := hown.out; rwa [List.take_length, cnt_all] at h, hb⟩

/-- Are all sections of locks that there are? -/
def okSec (n : Int) (s : Int × Int) : Bool := decide (0 ≤ min s.1 s.2) && decide (max s.1 s.2 < n)
def rightM (n : Int) (js : List (List (Int × Int))) : Bool := js.flatten.all (okSec n)

theorem concat_none (ao : Option Addr) (c : Nat) (w : World) :
    Calls Try.prog 23 #[.slice ao 0 c] w fun e w' => ∃ v', e = .returned v' ∧ w'.ownsRow w.heap.size 37 2 v' 0 [] ∧ Below w.heap.size w w' := by
  go_enter Try.func23, Try.ntmps23
  go_wp2
  go_loop [3, 11] (fun s i => s = .int .i64 0 ∧ i = .int .i64 0) (fun _ i => 0)
  case atStart => exact ⟨rfl, rfl⟩
  case round =>
    obtain ⟨rfl, rfl⟩ := hrel
    go_wp2_with fail
    refine (grow_any 0 _ (by omega)).mono ?_
    rintro e w1 ⟨v1, rfl, hr1, hb1⟩
    obtain ⟨ao1, c1, rfl⟩ := owns_form hr1
    go_wp2_with fail
    go_loopw [6, 27] (fun v i wr => v = .slice ao1 0 c1 ∧ i = .int .i64 0 ∧ wr = w1) (fun _ i _ => 0)
    case atStart => exact ⟨rfl, rfl, rfl⟩
    case round =>
      obtain ⟨rfl, rfl, rfl⟩ := hrel
      go_wp2_with fail
      go_ret
      exact ⟨_, rfl, hr1, hb1⟩

theorem concat_all (v : Value) (js : List (List (Int × Int))) (w : World) (hv : IsJobs w v js) (hl : js.length ≤ 1000) (ht : cnt js js.length ≤ 1000) :
    Calls Try.prog 23 #[v] w fun e w' => ∃ v', e = .returned v' ∧ w'.ownsRow w.heap.size 37 2 v' js.flatten.length (fl js.flatten) ∧ Below w.heap.size w w' := by
  obtain ⟨ao, cap, rfl, hv⟩ := hv
  by_cases h0 : js.length = 0
  · obtain rfl : js = [] := List.eq_nil_of_length_eq_zero h0
    exact concat_none ao cap w
  · rcases hv with h | ⟨b, off, rfl, hv⟩
    · exact absurd h h0
    · exact concat_any b off cap js w (by omega) hl ht hv

/-- A row of sections, owned, read. -/
theorem JCells.ofRow {w : World} {B g n c : Nat} {l : List (Int × Int)} (h : w.ownsRow B 37 2 (.slice (some ⟨g, 0, none⟩) n c) l.length (fl l)) : JCells w g 0 l := by
  have hc := h.cells (g := g) rfl
  have hadd : ∀ j, (⟨g, 0, none⟩ : Addr).add j = ⟨g, j, none⟩ := fun j => by unfold Addr.add; split <;> simp_all
  intro i hi
  have h1 := hc (i * 2) (.int .i64 (l.getD i (0, 0)).1) (by rw [fl_even]; simp [List.getD, hi])
  have h2 := hc (i * 2 + 1) (.int .i64 (l.getD i (0, 0)).2) (by rw [fl_odd]; simp [List.getD, hi])
  rw [hadd] at h1 h2
  simp only [Nat.zero_add]
  exact ⟨h1, h2⟩

theorem JCells.grow {w w' : World} {b off : Nat} {l : List (Int × Int)} (h : JCells w b off l) (hb : Below w.heap.size w w') : JCells w' b off l := fun i hi =>
  ⟨(hb.cell (p := ⟨b, off + i * 2, none⟩) (World.block_lt_of_cell? w ⟨b, off + i * 2, none⟩ (h i hi).1)).trans (h i hi).1,
   (hb.cell (p := ⟨b, off + i * 2 + 1, none⟩) (World.block_lt_of_cell? w ⟨b, off + i * 2 + 1, none⟩ (h i hi).2)).trans (h i hi).2⟩

set_option maxHeartbeats 1600000 in
theorem right_any (n : Int) (v : Value) (js : List (List (Int × Int))) (w : World) (hv : IsJobs w v js) (hl : js.length ≤ 1000) (ht : cnt js js.length ≤ 1000) :
    Calls Try.prog 12 #[.int .i64 n, v] w fun e w' => e = .returned (.bool (rightM n js)) ∧ Below w.heap.size w w' := by
  obtain ⟨l, el⟩ : ∃ l, l = js.flatten := ⟨_, rfl⟩
  have hll : l.length ≤ 1000 := by rw [el, ← cnt_all]; exact ht
  have hm : rightM n js = l.all (okSec n) := by rw [el]; rfl
  rw [hm]
  have hc := concat_all v js w hv hl ht
  rw [← el] at hc
  have Hc := Lib.hid hc
  obtain ⟨ao, cap, rfl, _⟩ := hv
  clear el hm hc ht
  go_enter Try.func12, Try.ntmps12
  go_wp2_with fail
  refine Hc.out.mono ?_
  rintro e w1 ⟨v1, rfl, hr, hb⟩
  by_cases h0 : l.length = 0
  · obtain rfl : l = [] := List.eq_nil_of_length_eq_zero h0
    obtain ⟨ao1, c1, rfl⟩ := owns_form hr
    clear hr h0
    go_wp2_with fail
    go_loop [12] (fun i => i = .int .i64 0) (fun i => 0)
    case atStart => rfl
    case round =>
      obtain rfl := hrel
      go_wp2_with fail
      go_ret
      exact ⟨rfl, hb⟩
  · obtain ⟨g, c1, rfl⟩ : ∃ g c1, v1 = .slice (some ⟨g, 0, none⟩) l.length c1 := by
      rcases hr.2 with ⟨rfl, h⟩ | ⟨g, cap, cur, rfl, _⟩
      · exact absurd h h0
      · exact ⟨_, _, rfl⟩
    have hj := JCells.ofRow hr
    have Hj := Lib.hid hj
    clear hr h0 hj
    go_wp2_with fail
    go_loopw [12] (fun i wr => ∃ k : Nat, k ≤ l.length ∧ i = .int .i64 k ∧ Hid (∀ i, i < k → okSec n (l.getD i (0, 0)) = true) ∧ Hid (JCells wr g 0 l) ∧ Below w.heap.size w wr) (fun i _ => l.length - (intOf i).toNat)
    case atStart => exact ⟨0, Nat.zero_le _, rfl, fun i hi => by omega, Hj, hb⟩
    case round =>
      obtain ⟨k, hk, rfl, hok, hjr, hbr⟩ := hrel
      have hsz := hbr.size
      clear hb Hj
      by_cases hlt : k < l.length
      · obtain ⟨hx, hy⟩ := hjr.out k hlt
        obtain ⟨s, es⟩ : ∃ s, s = l.getD k (0, 0) := ⟨_, rfl⟩
        rw [← es] at hx hy
        have Es := Lib.hid es
        clear es
        obtain ⟨x, y⟩ := s
        simp only [Nat.zero_add] at hx hy
        by_cases h1 : min x y < 0
        · go_wp2_with (go_at_call 10; refine (pair_any _ _ _).mono ?_; rintro e w' ⟨rfl, rfl⟩)
          go_ret
          have hn : l.all (okSec n) = false := by
            rw [List.all_eq_false]
            refine ⟨(x, y), ?_, ?_⟩
            · rw [Es.out]; simp [List.getD, hlt]
            · simp [okSec]; omega
          rw [hn]
          exact ⟨rfl, hbr.alloc hsz _⟩
        · by_cases h2 : n ≤ max x y
          · go_wp2_with (go_at_call 10; refine (pair_any _ _ _).mono ?_; rintro e w' ⟨rfl, rfl⟩)
            go_ret
            have hn : l.all (okSec n) = false := by
              rw [List.all_eq_false]
              refine ⟨(x, y), ?_, ?_⟩
              · rw [Es.out]; simp [List.getD, hlt]
              · simp [okSec]; omega
            rw [hn]
            exact ⟨rfl, hbr.alloc hsz _⟩
          · go_wp2_with (go_at_call 10; refine (pair_any _ _ _).mono ?_; rintro e w' ⟨rfl, rfl⟩)
            go_roundw
            case rel => exact ⟨k + 1, by omega, by go_num, fun i hi => by
              by_cases e : i = k
              · subst e; rw [← Es.out]; simp [okSec]; omega
              · exact hok i (by omega), JCells.grow hjr.out ((Below.refl _ _).alloc (Nat.le_refl _) _), hbr.alloc hsz _⟩
            case measure => simp [intOf]; omega
      · go_wp2_with fail
        go_ret
        have hn : l.all (okSec n) = true := by
          rw [List.all_eq_true]
          intro s hs
          obtain ⟨i, hi, rfl⟩ := List.getElem_of_mem hs
          have := hok.out i (by omega)
          simpa [List.getD, hi] using this
        rw [hn]
        exact ⟨rfl, hbr⟩
end Go.Proofs.Ytnammleaglmjaaa
