/- What holds wherever the program's run comes to its label. No condition. -/
import Derived.Test.YtnammleaglmjaaaW10
import Derived.Deep.OwnRows
import Derived.LoopN
namespace Go.Proofs.Ytnammleaglmjaaa
open Go.RowKit

/-- What is said of both programs' play. -/
def Plays (w : World) (r : Ans) (e : Ending) (w' : World) : Prop :=
  ∃ lv wv dv, e = .returned (.tuple #[.agg #[lv], wv, dv, .int .i64 r.err]) ∧ IsInts w' lv r.own ∧ IsWaiters w' wv r.ws ∧ IsInts w' dv r.dn ∧ Below w.heap.size w w'

theorem Try.info49 : (Try.prog.info? 49).map (fun i => (i.zero, i.size, i.bytes)) = some (some (.agg #[.slice none 0 0, .int .i64 0, .int .i64 0]), 3, 40) := by kernel_rfl

theorem IsJob.grow {w w' : World} {v : Value} {l : List (Int × Int)} (h : IsJob w v l) (hb : Below w.heap.size w w') : IsJob w' v l := by
  rcases h with h | ⟨a, cap, rfl, h | ⟨b, off, rfl, h⟩⟩
  · exact .inl h
  · exact .inr ⟨a, cap, rfl, .inl h⟩
  · exact .inr ⟨_, cap, rfl, .inr ⟨b, off, rfl, h.grow hb⟩⟩

theorem IsJobs.grow {w w' : World} {v : Value} {js : List (List (Int × Int))} (h : IsJobs w v js) (hb : Below w.heap.size w w') : IsJobs w' v js := by
  obtain ⟨ao, c, rfl, h | ⟨b, off, rfl, h⟩⟩ := h
  · exact ⟨ao, c, rfl, .inl h⟩
  · refine ⟨_, c, rfl, .inr ⟨b, off, rfl, fun i hi => ?_⟩⟩
    obtain ⟨jv, h1, h2⟩ := h i hi
    exact ⟨jv, (hb.cell (p := ⟨b, off + i, none⟩) (World.block_lt_of_cell? w _ h1)).trans h1, h2.grow hb⟩

theorem PI.cells {w wr : World} {Lb Ab n : Nat} {jv : Nat → Value} {st : St} {dv : Value} (h : PI w wr Lb Ab n jv st dv) {q : Nat} (hq : q < n) :
    wr.cell? ⟨Ab, q * 3, none⟩ = some (jv q) ∧ wr.cell? ⟨Ab, q * 3 + 1, none⟩ = some (.int .i64 (st.at_ q : Int)) ∧ wr.cell? ⟨Ab, q * 3 + 2, none⟩ = some (.int .i64 (st.has q : Int)) ∧
    wr.frozen? ⟨Ab, q * 3 + 1, none⟩ = false ∧ wr.frozen? ⟨Ab, q * 3 + 2, none⟩ = false :=
  ⟨(h.all.cellAt (q * 3) (by omega)).trans (allA_0 _ _ _ hq), (h.all.cellAt (q * 3 + 1) (by omega)).trans (allA_1 _ _ _ hq), (h.all.cellAt (q * 3 + 2) (by omega)).trans (allA_2 _ _ _ hq), h.all.frozenAt _, h.all.frozenAt _⟩

set_option maxRecDepth 100000 in
/-- What holds wherever the run comes to the label. -/
def JP (n : Nat) (aj : Option Addr) (c : Nat) (ao : Option Addr) (c2 : Nat) (js : List (List (Int × Int))) (ord : Bool) (ps : List Int) (w : World) (jv : Nat → Value) (a : Act) (wr : World) : Prop :=
  ∃ (f : Nat → Value) (Lb Ab k : Nat) (dv : Value), a = { tmps := #[.int .i64 (n : Int), .slice aj js.length c, .bool ord, .slice ao ps.length c2, f 4, f 5, f 6, f 7, .pointer (some ⟨w.heap.size, 0, none⟩), f 9, f 10, f 11, .pointer (some ⟨Lb, 0, none⟩), f 13, .slice (some ⟨Ab, 0, none⟩) js.length js.length, f 15, f 16, dv, .int .i64 (k : Int), f 19, f 20, f 21, f 22, f 23, f 24, f 25, f 26, f 27, f 28, f 29, f 30, f 31, f 32, f 33, f 34, f 35, f 36, f 37, f 38, f 39, f 40, f 41, f 42, f 43, f 44, f 45, f 46, f 47, f 48, f 49, f 50, f 51, f 52, f 53, f 54, f 55, f 56, f 57, f 58, f 59, f 60, f 61, f 62, f 63, f 64, f 65, f 66, f 67, f 68, f 69, f 70, f 71, f 72, f 73, f 74, f 75, f 76, f 77, f 78, f 79, f 80, f 81, f 82, f 83, f 84, f 85, f 86, f 87, f 88, f 89, f 90, f 91, f 92, f 93, f 94, f 95, f 96, f 97, f 98, f 99, f 100, f 101, f 102, f 103, f 104, f 105, f 106, f 107, f 108, f 109, f 110, f 111, f 112, f 113, f 114, f 115, f 116, f 117, f 118, f 119, f 120, f 121, f 122, f 123, f 124, f 125, f 126, f 127, f 128, f 129, f 130, f 131, f 132, f 133, f 134, f 135, f 136, f 137, f 138, f 139, f 140, f 141, f 142, f 143, f 144, f 145, f 146, f 147, f 148, f 149, f 150, f 151, f 152, f 153, f 154, f 155, f 156, f 157, f 158, f 159, f 160, f 161, f 162, f 163, f 164, f 165, f 166, f 167, f 168, f 169, f 170, f 171, f 172, f 173, f 174, f 175, f 176, f 177, f 178, f 179, f 180, f 181, f 182, f 183, f 184, f 185, f 186, f 187, f 188, f 189, f 190, f 191, f 192, f 193, f 194, f 195, f 196, f 197, f 198, f 199, f 200, f 201, f 202, f 203, f 204, f 205, f 206], defers := [] } ∧ k ≤ ps.length ∧ Hid (PI w wr Lb Ab js.length jv (runM js ord (startM n) (ps.take k)) dv)

set_option maxRecDepth 100000 in
/-- A pass ends at the label again. -/
theorem JP.pack {n : Nat} {aj : Option Addr} {c : Nat} {ao : Option Addr} {c2 : Nat} {js : List (List (Int × Int))} {ord : Bool} {ps : List Int} {w : World} {jv : Nat → Value} {wr : World} {Lb Ab k : Nat} {dv u4 u5 u6 u7 u9 u10 u11 u13 u15 u16 u19 u20 u21 u22 u23 u24 u25 u26 u27 u28 u29 u30 u31 u32 u33 u34 u35 u36 u37 u38 u39 u40 u41 u42 u43 u44 u45 u46 u47 u48 u49 u50 u51 u52 u53 u54 u55 u56 u57 u58 u59 u60 u61 u62 u63 u64 u65 u66 u67 u68 u69 u70 u71 u72 u73 u74 u75 u76 u77 u78 u79 u80 u81 u82 u83 u84 u85 u86 u87 u88 u89 u90 u91 u92 u93 u94 u95 u96 u97 u98 u99 u100 u101 u102 u103 u104 u105 u106 u107 u108 u109 u110 u111 u112 u113 u114 u115 u116 u117 u118 u119 u120 u121 u122 u123 u124 u125 u126 u127 u128 u129 u130 u131 u132 u133 u134 u135 u136 u137 u138 u139 u140 u141 u142 u143 u144 u145 u146 u147 u148 u149 u150 u151 u152 u153 u154 u155 u156 u157 u158 u159 u160 u161 u162 u163 u164 u165 u166 u167 u168 u169 u170 u171 u172 u173 u174 u175 u176 u177 u178 u179 u180 u181 u182 u183 u184 u185 u186 u187 u188 u189 u190 u191 u192 u193 u194 u195 u196 u197 u198 u199 u200 u201 u202 u203 u204 u205 u206 : Value}
    (hk : k ≤ ps.length) (h : PI w wr Lb Ab js.length jv (runM js ord (startM n) (ps.take k)) dv) :
    JP n aj c ao c2 js ord ps w jv { tmps := #[.int .i64 (n : Int), .slice aj js.length c, .bool ord, .slice ao ps.length c2, u4, u5, u6, u7, .pointer (some ⟨w.heap.size, 0, none⟩), u9, u10, u11, .pointer (some ⟨Lb, 0, none⟩), u13, .slice (some ⟨Ab, 0, none⟩) js.length js.length, u15, u16, dv, .int .i64 (k : Int), u19, u20, u21, u22, u23, u24, u25, u26, u27, u28, u29, u30, u31, u32, u33, u34, u35, u36, u37, u38, u39, u40, u41, u42, u43, u44, u45, u46, u47, u48, u49, u50, u51, u52, u53, u54, u55, u56, u57, u58, u59, u60, u61, u62, u63, u64, u65, u66, u67, u68, u69, u70, u71, u72, u73, u74, u75, u76, u77, u78, u79, u80, u81, u82, u83, u84, u85, u86, u87, u88, u89, u90, u91, u92, u93, u94, u95, u96, u97, u98, u99, u100, u101, u102, u103, u104, u105, u106, u107, u108, u109, u110, u111, u112, u113, u114, u115, u116, u117, u118, u119, u120, u121, u122, u123, u124, u125, u126, u127, u128, u129, u130, u131, u132, u133, u134, u135, u136, u137, u138, u139, u140, u141, u142, u143, u144, u145, u146, u147, u148, u149, u150, u151, u152, u153, u154, u155, u156, u157, u158, u159, u160, u161, u162, u163, u164, u165, u166, u167, u168, u169, u170, u171, u172, u173, u174, u175, u176, u177, u178, u179, u180, u181, u182, u183, u184, u185, u186, u187, u188, u189, u190, u191, u192, u193, u194, u195, u196, u197, u198, u199, u200, u201, u202, u203, u204, u205, u206], defers := [] } wr :=
  ⟨fun i => #[undef, undef, undef, undef, u4, u5, u6, u7, undef, u9, u10, u11, undef, u13, undef, u15, u16, undef, undef, u19, u20, u21, u22, u23, u24, u25, u26, u27, u28, u29, u30, u31, u32, u33, u34, u35, u36, u37, u38, u39, u40, u41, u42, u43, u44, u45, u46, u47, u48, u49, u50, u51, u52, u53, u54, u55, u56, u57, u58, u59, u60, u61, u62, u63, u64, u65, u66, u67, u68, u69, u70, u71, u72, u73, u74, u75, u76, u77, u78, u79, u80, u81, u82, u83, u84, u85, u86, u87, u88, u89, u90, u91, u92, u93, u94, u95, u96, u97, u98, u99, u100, u101, u102, u103, u104, u105, u106, u107, u108, u109, u110, u111, u112, u113, u114, u115, u116, u117, u118, u119, u120, u121, u122, u123, u124, u125, u126, u127, u128, u129, u130, u131, u132, u133, u134, u135, u136, u137, u138, u139, u140, u141, u142, u143, u144, u145, u146, u147, u148, u149, u150, u151, u152, u153, u154, u155, u156, u157, u158, u159, u160, u161, u162, u163, u164, u165, u166, u167, u168, u169, u170, u171, u172, u173, u174, u175, u176, u177, u178, u179, u180, u181, u182, u183, u184, u185, u186, u187, u188, u189, u190, u191, u192, u193, u194, u195, u196, u197, u198, u199, u200, u201, u202, u203, u204, u205, u206].getD i undef, Lb, Ab, k, dv, rfl, hk, h⟩
end Go.Proofs.Ytnammleaglmjaaa
