/-
  topic.Load: the producers' loop.
  topic.Load: the records' loop.
  topic.Load: the whole.
-/
import Derived.Test.YtdbnanniboiooaaDoorZLoad
set_option linter.unusedVariables false
set_option linter.unusedSimpArgs false
namespace Go.Proofs.Carillon
theorem items3 {l : List Itm} (h : 3 ≤ l.length) : l.getD 0 zItm ∈ l ∧ l.getD 1 zItm ∈ l ∧ l.getD 2 zItm ∈ l := by
  refine ⟨?_, ?_, ?_⟩ <;> (rw [List.getD_eq_getElem?_getD, List.getElem?_eq_getElem (by omega)]; exact List.getElem_mem _)
end Go.Proofs.Carillon
namespace Go.Proofs.YtdbnanniboiooaaDoor
open Go.RowKit Go.Proofs.Carillon Go.Proofs.YtdbnanniboiooaaDoorW.PrintWords Go.Lib Go.Shelf
def badP (fi : Int) (pv nm : ByteArray) (sq of : Int) : Bool := !(wordB nm) || leB nm pv || decide (9007199254740991 < sq) || decide (fi ≤ of)
theorem word_size {s : ByteArray} (h : wordB s = true) : s.size ≤ 20 := by
  unfold wordB at h; simp at h; omega
theorem badP_no {fi : Int} {pv nm : ByteArray} {sq of : Int} (h : badP fi pv nm sq of = false) (hf : fi ≤ 9007199254740991) : nm.size ≤ 20 ∧ leB nm pv = false ∧ sq ≤ 9007199254740991 ∧ of ≤ 9007199254740991 := by
  unfold badP at h
  simp only [Bool.or_eq_false_iff, decide_eq_false_iff_not, Bool.not_eq_false'] at h
  exact ⟨word_size h.1.1.1, h.1.1.2, by omega, by omega⟩
def loadProds (fi : Int) : Nat → List Itm → ByteArray → List (ByteArray × (Int × Int)) → Option (List (ByteArray × (Int × Int)) × List Itm)
  | 0, l, _, m => some (m, l)
  | n + 1, l, pv, m => if badP fi pv (l.getD 0 zItm).s (l.getD 1 zItm).n (l.getD 2 zItm).n then none else loadProds fi n (l.drop 3) (l.getD 0 zItm).s (mput m (l.getD 0 zItm).s ((l.getD 1 zItm).n, (l.getD 2 zItm).n))
def L1bWp (Q : Exit → Act → World → Prop) (a : Act) (w : World) : Prop := Code.wp Tryd.prog (blockB (seqB (seqA (seqB (seqB (seqB (seqB (seqB (Tryd.f16.body.getD .skip))))))))) Q a w

structure ProdRel (W : World) (ok : Nat → Prop) (a bm : Nat) (rv : Value) (T : Tp) (R : Option (List (ByteArray × (Int × Int)) × List Itm)) (l : List Itm) (A : Option Addr) (c n : Nat) (pv : ByteArray) (m : List (ByteArray × (Int × Int))) (w : World) : Prop where
  hC : kItem.C W A l.length l
  hc : l.length ≤ c
  below : Below W.heap.size W w
  tp : TopicAt w ok a bm rv { T with prods := m }
  go : loadProds T.fin n l pv m = R
  len : 3 * n ≤ l.length
  pos : ∀ x ∈ l, 0 ≤ x.n
  small : m.length + n ≤ 1000

set_option maxRecDepth 100000 in
set_option maxHeartbeats 4000000 in
theorem load_loop1 (W w : World) (ok : Nat → Prop) (a bm : Nat) (rv : Value) (T : Tp) (R : Option (List (ByteArray × (Int × Int)) × List Itm)) (l : List Itm) (A : Option Addr) (c n : Nat) (hok : ∀ k, ok k → W.heap.size ≤ k) (hf0 : 0 ≤ T.fin) (hf1 : T.fin ≤ 9007199254740991)
    (hrel : ProdRel W ok a bm rv T R l A c n ⟨#[]⟩ [] w) (Q : Exit → Act → World → Prop) (u0 u1 u2 u3 u6 u9 u10 u11 u12 u13 u14 u15 u16 u17 u18 u19 u20 u21 u22 u23 u24 u25 u26 u27 u28 u29 u30 u31 u32 u33 u34 u35 u36 u37 u38 u39 u40 u41 u42 u43 u44 u45 u46 u47 u48 u49 u50 u51 u52 u53 u54 u55 u56 u57 u58 u59 u60 u61 u62 u63 u64 u65 u66 u67 u68 u69 u70 u71 u72 u73 u74 u75 u76 u77 u78 u79 u80 u81 u82 u83 u84 u85 u86 u87 u88 u89 u90 u91 u92 u93 u94 u95 u96 u97 u98 u99 u100 u101 u102 u103 u104 u105 u106 u107 u108 u109 u110 u111 u112 u113 u114 u115 u116 u117 u118 u119 u120 u121 u122 u123 u124 u125 u126 u127 u128 u129 u130 u131 u132 u133 u134 u135 u136 u137 u138 u139 u140 u141 u142 u143 u144 u145 u146 u147 u148 u149 u150 u151 u152 u153 u154 u155 u156 u157 u158 u159 u160 u161 u162 u163 u164 u165 u166 u167 u168 u169 u170 u171 u172 u173 u174 u175 u176 u177 u178 u179 u180 u181 u182 u183 u184 u185 u186 u187 u188 u189 u190 u191 u192 u193 u194 u195 u196 : Value)
    (hbad : R = none → ∀ w' (u0 u1 u4 u5 u6 u7 u8 u9 u10 u11 u12 u13 u14 u15 u16 u17 u18 u19 u20 u21 u22 u23 u24 u25 u26 u27 u28 u29 u30 u31 u32 u33 u34 u35 u36 u37 u38 u39 u40 u41 u42 u43 u44 u45 u46 u47 u48 u49 u50 u51 u52 u53 u54 u55 u56 u57 u58 u59 u60 u61 u62 u63 u64 u65 u66 u67 u68 u69 u70 u71 u72 u73 u74 u75 u76 u77 u78 u79 u80 u81 u82 u83 u84 u85 u86 u87 u88 u89 u90 u91 u92 u93 u94 u95 u96 u97 u98 u99 u100 u101 u102 u103 u104 u105 u106 u107 u108 u109 u110 u111 u112 u113 u114 u115 u116 u117 u118 u119 u120 u121 u122 u123 u124 u125 u126 u127 u128 u129 u130 u131 u132 u133 u134 u135 u136 u137 u138 u139 u140 u141 u142 u143 u144 u145 u146 u147 u148 u149 u150 u151 u152 u153 u154 u155 u156 u157 u158 u159 u160 u161 u162 u163 u164 u165 u166 u167 u168 u169 u170 u171 u172 u173 u174 u175 u176 u177 u178 u179 u180 u181 u182 u183 u184 u185 u186 u187 u188 u189 u190 u191 u192 u193 u194 u195 u196 : Value), Below W.heap.size W w' → Q .ret ⟨#[u0, u1, .pointer none, .int .i64 10, u4, u5, u6, u7, u8, u9, u10, u11, u12, u13, u14, u15, u16, u17, u18, u19, u20, u21, u22, u23, u24, u25, u26, u27, u28, u29, u30, u31, u32, u33, u34, u35, u36, u37, u38, u39, u40, u41, u42, u43, u44, u45, u46, u47, u48, u49, u50, u51, u52, u53, u54, u55, u56, u57, u58, u59, u60, u61, u62, u63, u64, u65, u66, u67, u68, u69, u70, u71, u72, u73, u74, u75, u76, u77, u78, u79, u80, u81, u82, u83, u84, u85, u86, u87, u88, u89, u90, u91, u92, u93, u94, u95, u96, u97, u98, u99, u100, u101, u102, u103, u104, u105, u106, u107, u108, u109, u110, u111, u112, u113, u114, u115, u116, u117, u118, u119, u120, u121, u122, u123, u124, u125, u126, u127, u128, u129, u130, u131, u132, u133, u134, u135, u136, u137, u138, u139, u140, u141, u142, u143, u144, u145, u146, u147, u148, u149, u150, u151, u152, u153, u154, u155, u156, u157, u158, u159, u160, u161, u162, u163, u164, u165, u166, u167, u168, u169, u170, u171, u172, u173, u174, u175, u176, u177, u178, u179, u180, u181, u182, u183, u184, u185, u186, u187, u188, u189, u190, u191, u192, u193, u194, u195, u196], []⟩ w')
    (hgo : ∀ l' m A' c' w' (u0 u1 u2 u3 u5 u6 u8 u9 u10 u11 u12 u13 u14 u15 u16 u17 u18 u19 u20 u21 u22 u23 u24 u25 u26 u27 u28 u29 u30 u31 u32 u33 u34 u35 u36 u37 u38 u39 u40 u41 u42 u43 u44 u45 u46 u47 u48 u49 u50 u51 u52 u53 u54 u55 u56 u57 u58 u59 u60 u61 u62 u63 u64 u65 u66 u67 u68 u69 u70 u71 u72 u73 u74 u75 u76 u77 u78 u79 u80 u81 u82 u83 u84 u85 u86 u87 u88 u89 u90 u91 u92 u93 u94 u95 u96 u97 u98 u99 u100 u101 u102 u103 u104 u105 u106 u107 u108 u109 u110 u111 u112 u113 u114 u115 u116 u117 u118 u119 u120 u121 u122 u123 u124 u125 u126 u127 u128 u129 u130 u131 u132 u133 u134 u135 u136 u137 u138 u139 u140 u141 u142 u143 u144 u145 u146 u147 u148 u149 u150 u151 u152 u153 u154 u155 u156 u157 u158 u159 u160 u161 u162 u163 u164 u165 u166 u167 u168 u169 u170 u171 u172 u173 u174 u175 u176 u177 u178 u179 u180 u181 u182 u183 u184 u185 u186 u187 u188 u189 u190 u191 u192 u193 u194 u195 u196 : Value), R = some (m, l') → kItem.C W A' l'.length l' → l'.length ≤ c' → Below W.heap.size W w' → TopicAt w' ok a bm rv { T with prods := m } → Q (.exit 0) ⟨#[u0, u1, u2, u3, .slice A' l'.length c', u5, u6, .pointer (some ⟨a, 0, none⟩), u8, u9, u10, u11, u12, u13, u14, u15, u16, u17, u18, u19, u20, u21, u22, u23, u24, u25, u26, u27, u28, u29, u30, u31, u32, u33, u34, u35, u36, u37, u38, u39, u40, u41, u42, u43, u44, u45, u46, u47, u48, u49, u50, u51, u52, u53, u54, u55, u56, u57, u58, u59, u60, u61, u62, u63, u64, u65, u66, u67, u68, u69, u70, u71, u72, u73, u74, u75, u76, u77, u78, u79, u80, u81, u82, u83, u84, u85, u86, u87, u88, u89, u90, u91, u92, u93, u94, u95, u96, u97, u98, u99, u100, u101, u102, u103, u104, u105, u106, u107, u108, u109, u110, u111, u112, u113, u114, u115, u116, u117, u118, u119, u120, u121, u122, u123, u124, u125, u126, u127, u128, u129, u130, u131, u132, u133, u134, u135, u136, u137, u138, u139, u140, u141, u142, u143, u144, u145, u146, u147, u148, u149, u150, u151, u152, u153, u154, u155, u156, u157, u158, u159, u160, u161, u162, u163, u164, u165, u166, u167, u168, u169, u170, u171, u172, u173, u174, u175, u176, u177, u178, u179, u180, u181, u182, u183, u184, u185, u186, u187, u188, u189, u190, u191, u192, u193, u194, u195, u196], []⟩ w') :
    L1bWp Q ⟨#[u0, u1, u2, u3, .slice A l.length c, .int .i64 (n : Nat), u6, .pointer (some ⟨a, 0, none⟩), .string ⟨#[]⟩, u9, u10, u11, u12, u13, u14, u15, u16, u17, u18, u19, u20, u21, u22, u23, u24, u25, u26, u27, u28, u29, u30, u31, u32, u33, u34, u35, u36, u37, u38, u39, u40, u41, u42, u43, u44, u45, u46, u47, u48, u49, u50, u51, u52, u53, u54, u55, u56, u57, u58, u59, u60, u61, u62, u63, u64, u65, u66, u67, u68, u69, u70, u71, u72, u73, u74, u75, u76, u77, u78, u79, u80, u81, u82, u83, u84, u85, u86, u87, u88, u89, u90, u91, u92, u93, u94, u95, u96, u97, u98, u99, u100, u101, u102, u103, u104, u105, u106, u107, u108, u109, u110, u111, u112, u113, u114, u115, u116, u117, u118, u119, u120, u121, u122, u123, u124, u125, u126, u127, u128, u129, u130, u131, u132, u133, u134, u135, u136, u137, u138, u139, u140, u141, u142, u143, u144, u145, u146, u147, u148, u149, u150, u151, u152, u153, u154, u155, u156, u157, u158, u159, u160, u161, u162, u163, u164, u165, u166, u167, u168, u169, u170, u171, u172, u173, u174, u175, u176, u177, u178, u179, u180, u181, u182, u183, u184, u185, u186, u187, u188, u189, u190, u191, u192, u193, u194, u195, u196], []⟩ w := by
  have HBAD := Lib.hid hbad
  have HGO := Lib.hid hgo
  have HREL := Lib.hid hrel
  have HOK := Lib.hid hok
  clear hbad hgo hrel hok
  unfold L1bWp Tryd.f16
  simp only [seqA, seqB, blockB, Option.getD]
  go_loopw [4, 5, 8] (fun lv nv pv wr => ∃ (l : List Itm) (A : Option Addr) (c n : Nat) (s : ByteArray) (m : List (ByteArray × (Int × Int))), lv = .slice A l.length c ∧ nv = .int .i64 (n : Nat) ∧ pv = .string s ∧ ProdRel W ok a bm rv T R l A c n s m wr) (fun _ n _ _ => (intOf n).toNat)
  case atStart => exact ⟨l, A, c, n, _, [], rfl, rfl, rfl, HREL.out⟩
  case round =>
    obtain ⟨l1, A1, c1, n1, s1, m1, rfl, rfl, rfl, hr⟩ := hrel
    have HR := Lib.hid hr
    clear hr
    cases n1 with
    | zero =>
      go_wp2
      exact HGO.out l1 m1 A1 c1 wr _ _ _ _ _ _ _ _ _ _ _ _ _ _ _ _ _ _ _ _ _ _ _ _ _ _ _ _ _ _ _ _ _ _ _ _ _ _ _ _ _ _ _ _ _ _ _ _ _ _ _ _ _ _ _ _ _ _ _ _ _ _ _ _ _ _ _ _ _ _ _ _ _ _ _ _ _ _ _ _ _ _ _ _ _ _ _ _ _ _ _ _ _ _ _ _ _ _ _ _ _ _ _ _ _ _ _ _ _ _ _ _ _ _ _ _ _ _ _ _ _ _ _ _ _ _ _ _ _ _ _ _ _ _ _ _ _ _ _ _ _ _ _ _ _ _ _ _ _ _ _ _ _ _ _ _ _ _ _ _ _ _ _ _ _ _ _ _ _ _ _ _ _ _ _ _ _ _ _ _ _ _ _ _ _ _ _ _ _ _ _ _ _ _ _ HR.out.go.symm HR.out.hC HR.out.hc HR.out.below HR.out.tp
    | succ k =>
      have hlen := HR.out.len
      have hC0 := Kd.C_below HR.out.hC HR.out.below
      obtain ⟨ad, q0, hA, hq0, _, _, z0⟩ := item_nat hC0 0 (by omega)
      obtain ⟨ad1, q1, hA1, hq1, _, y1, _⟩ := item_nat hC0 1 (by omega)
      obtain ⟨ad2, q2, hA2, hq2, _, y2, _⟩ := item_nat hC0 2 (by omega)
      subst hA
      cases hA1
      cases hA2
      have k0 : wr.cell? ⟨ad.block, ad.off + 2, none⟩ = some (.string q0.s) := z0
      have k1 : wr.cell? ⟨ad.block, ad.off + 3 + 1, none⟩ = some (.int .u64 q1.n) := y1
      have k2 : wr.cell? ⟨ad.block, ad.off + 6 + 1, none⟩ = some (.int .u64 q2.n) := y2
      have k3 : wr.cell? ⟨a, 2, none⟩ = some (.int .i64 T.fin) := HR.out.tp.c2
      have hmem := items3 (l := l1) (by omega)
      have p1 := HR.out.pos _ hmem.2.1
      have p2 := HR.out.pos _ hmem.2.2
      have hgo := HR.out.go
      rw [loadProds, hq0, hq1, hq2] at hgo
      rw [hq1] at p1
      rw [hq2] at p2
      have hc1 := HR.out.hc
      have HGO1 := Lib.hid hgo
      clear z0 y1 y2 hC0 hmem hgo hq0 hq1 hq2
      go_wp2
      refine load_r9 wr ad _ c1 a q0.s s1 q1.n q2.n T.fin (by omega) p1 p2 hf0 hf1 _ _ _ _ _ _ _ _ _ _ _ _ _ _ _ _ _ _ _ _ _ _ _ _ _ _ _ _ _ _ _ _ _ _ _ _ _ _ _ _ _ _ _ _ _ _ _ _ _ _ _ _ _ _ _ _ _ _ _ _ _ _ _ _ _ _ _ _ _ _ _ _ _ _ _ _ _ _ _ _ _ _ _ _ _ _ _ _ _ _ _ _ _ _ _ _ _ _ _ _ _ _ _ _ _ _ _ _ _ _ _ _ _ _ _ _ _ _ _ _ _ _ _ _ _ _ _ _ _ _ _ _ _ _ _ _ _ _ _ _ _ _ _ _ _ _ _ _ _ _ _ _ _ _ _ _ _ _ _ _ _ _ _ _ _ _ _ _ _ _ _ _ _ _ _ _ _ _ _ _ _ _ _ _ _ _ _ _ _ _ _ _ _ _ _ k0 k1 k2 k3 ?_
      intro w' u70 u71 u72 u73 u74 u75 u76 u77 u78 u79 u80 u81 u82 u83 u84 u85 u86 u87 u88 u89 u90 u91 u92 u93 u94 u95 u96 u97 u98 u99 u100 u101 bad hbd hb'
      have hT1 := HR.out.tp.below hb'
      have k0' := pw_cell_below hb' k0
      have k1' := pw_cell_below hb' k1
      have k2' := pw_cell_below hb' k2
      have hbb := below_step HR.out.below hb'
      have HT1 := Lib.hid hT1
      have HBB := Lib.hid hbb
      cases bad
      · obtain ⟨b1, b2, b3, b4⟩ := badP_no (fi := T.fin) (pv := s1) (nm := q0.s) (sq := q1.n) (of := q2.n) hbd.symm hf1
        have HGO2 := Lib.hid (HGO1.out.symm.trans (if_neg (by rw [show badP T.fin s1 q0.s q1.n q2.n = false from hbd.symm]; exact Bool.false_ne_true)))
        have hsm := HR.out.small
        clear k0 k1 k2 k3 hT1 hbb hb' hbd
        go_wp2
        refine load_r12 w' ok ad _ c1 a bm rv { T with prods := m1 } q0.s q1.n q2.n (by omega) p1 p2 b3 b4 _ _ _ _ _ _ _ _ _ _ _ _ _ _ _ _ _ _ _ _ _ _ _ _ _ _ _ _ _ _ _ _ _ _ _ _ _ _ _ _ _ _ _ _ _ _ _ _ _ _ _ _ _ _ _ _ _ _ _ _ _ _ _ _ _ _ _ _ _ _ _ _ _ _ _ _ _ _ _ _ _ _ _ _ _ _ _ _ _ _ _ _ _ _ _ _ _ _ _ _ _ _ _ _ _ _ _ _ _ _ _ _ _ _ _ _ _ _ _ _ _ _ _ _ _ _ _ _ _ _ _ _ _ _ _ _ _ _ _ _ _ _ _ _ _ _ _ _ _ _ _ _ _ _ _ _ _ _ _ _ _ _ _ _ _ _ _ _ _ _ _ _ _ _ _ _ _ _ _ _ _ _ _ _ _ _ _ _ _ _ _ _ _ _ _ k1' k2' HT1.out b1 (by show m1.length ≤ 1000000; omega) ?_
        intro w2 u107 u108 u109 u110 u111 u112 u113 u114 u115 u116 u117 u118 u119 u120 u121 u122 u123 u124 hT2 ht2 _
        go_wp2
        have hb2 : Below W.heap.size W w2 := ((Turned.of_below HBB.out).trans ht2 (fun i hi => .inr (HOK.out i hi)) : Turned (fun _ => False) W w2).below
        have hC2 := Kd.C_drop HR.out.hC (m := 3) (by omega) HR.out.hc
        have hl2 : (l1.drop 3).length = l1.length - 3 := List.length_drop
        refine ⟨⟨l1.drop 3, _, c1 - 3, k, q0.s, _, ?_, rfl, rfl, ⟨hC2, by omega, hb2, hT2, HGO2.out.symm, by omega, fun x hx => HR.out.pos x (List.mem_of_mem_drop hx), ?_⟩⟩, ?_⟩
        · rw [hl2]; rfl
        · have := length_put m1 q0.s (q1.n, q2.n)
          show (mput m1 q0.s (q1.n, q2.n)).length + k ≤ 1000
          omega
        · simp [intOf]
      · have HGO2 := Lib.hid (HGO1.out.symm.trans (if_pos hbd.symm))
        clear k0 k1 k2 k3 hT1 hbb hb' hbd
        go_wp2
        exact HBAD.out HGO2.out _ _ _ _ _ _ _ _ _ _ _ _ _ _ _ _ _ _ _ _ _ _ _ _ _ _ _ _ _ _ _ _ _ _ _ _ _ _ _ _ _ _ _ _ _ _ _ _ _ _ _ _ _ _ _ _ _ _ _ _ _ _ _ _ _ _ _ _ _ _ _ _ _ _ _ _ _ _ _ _ _ _ _ _ _ _ _ _ _ _ _ _ _ _ _ _ _ _ _ _ _ _ _ _ _ _ _ _ _ _ _ _ _ _ _ _ _ _ _ _ _ _ _ _ _ _ _ _ _ _ _ _ _ _ _ _ _ _ _ _ _ _ _ _ _ _ _ _ _ _ _ _ _ _ _ _ _ _ _ _ _ _ _ _ _ _ _ _ _ _ _ _ _ _ _ _ _ _ _ _ _ _ _ _ _ _ _ _ _ _ _ _ _ _ _ _ HBB.out
end Go.Proofs.YtdbnanniboiooaaDoor
namespace Go.Proofs.Carillon
theorem items5 {l : List Itm} (h : 5 ≤ l.length) : l.getD 0 zItm ∈ l ∧ l.getD 2 zItm ∈ l := by
  refine ⟨?_, ?_⟩ <;> (rw [List.getD_eq_getElem?_getD, List.getElem?_eq_getElem (by omega)]; exact List.getElem_mem _)
def recOf (l : List Itm) : Rec := ⟨(l.getD 0 zItm).n, (l.getD 1 zItm).s, (l.getD 2 zItm).n, (l.getD 3 zItm).s, (l.getD 4 zItm).s⟩
end Go.Proofs.Carillon
namespace Go.Proofs.YtdbnanniboiooaaDoor
open Go.RowKit Go.Proofs.Carillon Go.Proofs.YtdbnanniboiooaaDoorW.PrintWords Go.Lib Go.Shelf
def loadRecs (fi : Int) : Nat → List Itm → Int → List Rec → Option (List Rec)
  | 0, _, _, out => some out
  | n + 1, l, least, out => if (decide (fi ≤ (recOf l).off) || decide (9007199254740991 < (recOf l).seq)) = true then none else
    if rightB (recOf l) = true ∧ least ≤ (recOf l).off then loadRecs fi n (l.drop 5) ((recOf l).off + 1) (out ++ [recOf l]) else none
def L3bWp (Q : Exit → Act → World → Prop) (a : Act) (w : World) : Prop := Code.wp Tryd.prog (blockB (seqA (seqB (seqB (seqB (seqB (seqB (seqB (seqB (Tryd.f16.body.getD .skip)))))))))) Q a w

structure RecRel (W : World) (a bm : Nat) (rv : Value) (T : Tp) (R : Option (List Rec)) (l : List Itm) (A : Option Addr) (c n : Nat) (least : Int) (out : List Rec) (w : World) : Prop where
  hC : kItem.C W A l.length l
  hc : l.length ≤ c
  below : Below W.heap.size W w
  tp : TopicAt w (fun k => W.heap.size ≤ k) a bm rv { T with recs := out }
  go : loadRecs T.fin n l least out = R
  len : l.length = 5 * n
  pos : ∀ x ∈ l, 0 ≤ x.n
  small : out.length + n ≤ 1000
  least0 : 0 ≤ least
  least1 : least ≤ 9007199254740992

set_option maxRecDepth 100000 in
set_option maxHeartbeats 4000000 in
theorem load_loop2 (W w : World) (a bm : Nat) (rv : Value) (T : Tp) (R : Option (List Rec)) (l : List Itm) (A : Option Addr) (c n : Nat) (least : Int) (out : List Rec) (hf0 : 0 ≤ T.fin) (hf1 : T.fin ≤ 9007199254740991)
    (hrel : RecRel W a bm rv T R l A c n least out w) (Q : Exit → Act → World → Prop) (u0 u1 u2 u3 u5 u6 u8 u10 u11 u12 u13 u14 u15 u16 u17 u18 u19 u20 u21 u22 u23 u24 u25 u26 u27 u28 u29 u30 u31 u32 u33 u34 u35 u36 u37 u38 u39 u40 u41 u42 u43 u44 u45 u46 u47 u48 u49 u50 u51 u52 u53 u54 u55 u56 u57 u58 u59 u60 u61 u62 u63 u64 u65 u66 u67 u68 u69 u70 u71 u72 u73 u74 u75 u76 u77 u78 u79 u80 u81 u82 u83 u84 u85 u86 u87 u88 u89 u90 u91 u92 u93 u94 u95 u96 u97 u98 u99 u100 u101 u102 u103 u104 u105 u106 u107 u108 u109 u110 u111 u112 u113 u114 u115 u116 u117 u118 u119 u120 u121 u122 u123 u124 u125 u126 u127 u128 u129 u130 u131 u132 u133 u134 u135 u136 u137 u138 u139 u140 u141 u142 u143 u144 u145 u146 u147 u148 u149 u150 u151 u152 u153 u154 u155 u156 u157 u158 u159 u160 u161 u162 u163 u164 u165 u166 u167 u168 u169 u170 u171 u172 u173 u174 u175 u176 u177 u178 u179 u180 u181 u182 u183 u184 u185 u186 u187 u188 u189 u190 u191 u192 u193 u194 u195 u196 : Value)
    (hbad : R = none → ∀ w' (u0 u1 u4 u5 u6 u7 u8 u9 u10 u11 u12 u13 u14 u15 u16 u17 u18 u19 u20 u21 u22 u23 u24 u25 u26 u27 u28 u29 u30 u31 u32 u33 u34 u35 u36 u37 u38 u39 u40 u41 u42 u43 u44 u45 u46 u47 u48 u49 u50 u51 u52 u53 u54 u55 u56 u57 u58 u59 u60 u61 u62 u63 u64 u65 u66 u67 u68 u69 u70 u71 u72 u73 u74 u75 u76 u77 u78 u79 u80 u81 u82 u83 u84 u85 u86 u87 u88 u89 u90 u91 u92 u93 u94 u95 u96 u97 u98 u99 u100 u101 u102 u103 u104 u105 u106 u107 u108 u109 u110 u111 u112 u113 u114 u115 u116 u117 u118 u119 u120 u121 u122 u123 u124 u125 u126 u127 u128 u129 u130 u131 u132 u133 u134 u135 u136 u137 u138 u139 u140 u141 u142 u143 u144 u145 u146 u147 u148 u149 u150 u151 u152 u153 u154 u155 u156 u157 u158 u159 u160 u161 u162 u163 u164 u165 u166 u167 u168 u169 u170 u171 u172 u173 u174 u175 u176 u177 u178 u179 u180 u181 u182 u183 u184 u185 u186 u187 u188 u189 u190 u191 u192 u193 u194 u195 u196 : Value), Below W.heap.size W w' → Q .ret ⟨#[u0, u1, .pointer none, .int .i64 10, u4, u5, u6, u7, u8, u9, u10, u11, u12, u13, u14, u15, u16, u17, u18, u19, u20, u21, u22, u23, u24, u25, u26, u27, u28, u29, u30, u31, u32, u33, u34, u35, u36, u37, u38, u39, u40, u41, u42, u43, u44, u45, u46, u47, u48, u49, u50, u51, u52, u53, u54, u55, u56, u57, u58, u59, u60, u61, u62, u63, u64, u65, u66, u67, u68, u69, u70, u71, u72, u73, u74, u75, u76, u77, u78, u79, u80, u81, u82, u83, u84, u85, u86, u87, u88, u89, u90, u91, u92, u93, u94, u95, u96, u97, u98, u99, u100, u101, u102, u103, u104, u105, u106, u107, u108, u109, u110, u111, u112, u113, u114, u115, u116, u117, u118, u119, u120, u121, u122, u123, u124, u125, u126, u127, u128, u129, u130, u131, u132, u133, u134, u135, u136, u137, u138, u139, u140, u141, u142, u143, u144, u145, u146, u147, u148, u149, u150, u151, u152, u153, u154, u155, u156, u157, u158, u159, u160, u161, u162, u163, u164, u165, u166, u167, u168, u169, u170, u171, u172, u173, u174, u175, u176, u177, u178, u179, u180, u181, u182, u183, u184, u185, u186, u187, u188, u189, u190, u191, u192, u193, u194, u195, u196], []⟩ w')
    (hgo : ∀ out' rv' w' (u0 u1 u2 u3 u4 u5 u6 u8 u9 u10 u11 u12 u13 u14 u15 u16 u17 u18 u19 u20 u21 u22 u23 u24 u25 u26 u27 u28 u29 u30 u31 u32 u33 u34 u35 u36 u37 u38 u39 u40 u41 u42 u43 u44 u45 u46 u47 u48 u49 u50 u51 u52 u53 u54 u55 u56 u57 u58 u59 u60 u61 u62 u63 u64 u65 u66 u67 u68 u69 u70 u71 u72 u73 u74 u75 u76 u77 u78 u79 u80 u81 u82 u83 u84 u85 u86 u87 u88 u89 u90 u91 u92 u93 u94 u95 u96 u97 u98 u99 u100 u101 u102 u103 u104 u105 u106 u107 u108 u109 u110 u111 u112 u113 u114 u115 u116 u117 u118 u119 u120 u121 u122 u123 u124 u125 u126 u127 u128 u129 u130 u131 u132 u133 u134 u135 u136 u137 u138 u139 u140 u141 u142 u143 u144 u145 u146 u147 u148 u149 u150 u151 u152 u153 u154 u155 u156 u157 u158 u159 u160 u161 u162 u163 u164 u165 u166 u167 u168 u169 u170 u171 u172 u173 u174 u175 u176 u177 u178 u179 u180 u181 u182 u183 u184 u185 u186 u187 u188 u189 u190 u191 u192 u193 u194 u195 u196 : Value), R = some out' → Below W.heap.size W w' → TopicAt w' (fun k => W.heap.size ≤ k) a bm rv' { T with recs := out' } → Q (.exit 2) ⟨#[u0, u1, u2, u3, u4, u5, u6, .pointer (some ⟨a, 0, none⟩), u8, u9, u10, u11, u12, u13, u14, u15, u16, u17, u18, u19, u20, u21, u22, u23, u24, u25, u26, u27, u28, u29, u30, u31, u32, u33, u34, u35, u36, u37, u38, u39, u40, u41, u42, u43, u44, u45, u46, u47, u48, u49, u50, u51, u52, u53, u54, u55, u56, u57, u58, u59, u60, u61, u62, u63, u64, u65, u66, u67, u68, u69, u70, u71, u72, u73, u74, u75, u76, u77, u78, u79, u80, u81, u82, u83, u84, u85, u86, u87, u88, u89, u90, u91, u92, u93, u94, u95, u96, u97, u98, u99, u100, u101, u102, u103, u104, u105, u106, u107, u108, u109, u110, u111, u112, u113, u114, u115, u116, u117, u118, u119, u120, u121, u122, u123, u124, u125, u126, u127, u128, u129, u130, u131, u132, u133, u134, u135, u136, u137, u138, u139, u140, u141, u142, u143, u144, u145, u146, u147, u148, u149, u150, u151, u152, u153, u154, u155, u156, u157, u158, u159, u160, u161, u162, u163, u164, u165, u166, u167, u168, u169, u170, u171, u172, u173, u174, u175, u176, u177, u178, u179, u180, u181, u182, u183, u184, u185, u186, u187, u188, u189, u190, u191, u192, u193, u194, u195, u196], []⟩ w') :
    L3bWp Q ⟨#[u0, u1, u2, u3, .slice A l.length c, u5, u6, .pointer (some ⟨a, 0, none⟩), u8, .int .i64 least, u10, u11, u12, u13, u14, u15, u16, u17, u18, u19, u20, u21, u22, u23, u24, u25, u26, u27, u28, u29, u30, u31, u32, u33, u34, u35, u36, u37, u38, u39, u40, u41, u42, u43, u44, u45, u46, u47, u48, u49, u50, u51, u52, u53, u54, u55, u56, u57, u58, u59, u60, u61, u62, u63, u64, u65, u66, u67, u68, u69, u70, u71, u72, u73, u74, u75, u76, u77, u78, u79, u80, u81, u82, u83, u84, u85, u86, u87, u88, u89, u90, u91, u92, u93, u94, u95, u96, u97, u98, u99, u100, u101, u102, u103, u104, u105, u106, u107, u108, u109, u110, u111, u112, u113, u114, u115, u116, u117, u118, u119, u120, u121, u122, u123, u124, u125, u126, u127, u128, u129, u130, u131, u132, u133, u134, u135, u136, u137, u138, u139, u140, u141, u142, u143, u144, u145, u146, u147, u148, u149, u150, u151, u152, u153, u154, u155, u156, u157, u158, u159, u160, u161, u162, u163, u164, u165, u166, u167, u168, u169, u170, u171, u172, u173, u174, u175, u176, u177, u178, u179, u180, u181, u182, u183, u184, u185, u186, u187, u188, u189, u190, u191, u192, u193, u194, u195, u196], []⟩ w := by
  have HBAD := Lib.hid hbad
  have HGO := Lib.hid hgo
  have HREL := Lib.hid hrel
  clear hbad hgo hrel
  unfold L3bWp Tryd.f16
  simp only [seqA, seqB, blockB, Option.getD]
  go_loopw [4, 9] (fun lv ev wr => ∃ (l : List Itm) (A : Option Addr) (c n : Nat) (least : Int) (out : List Rec) (rv : Value), lv = .slice A l.length c ∧ ev = .int .i64 least ∧ RecRel W a bm rv T R l A c n least out wr) (fun lv _ _ => lenOf lv)
  case atStart => exact ⟨l, A, c, n, least, out, rv, rfl, rfl, HREL.out⟩
  case round =>
    obtain ⟨l1, A1, c1, n1, e1, o1, rv1, rfl, rfl, hr⟩ := hrel
    have HR := Lib.hid hr
    clear hr
    cases n1 with
    | zero =>
      have hl0 : l1.length = 0 := HR.out.len
      go_wp2
      exact HGO.out o1 rv1 wr _ _ _ _ _ _ _ _ _ _ _ _ _ _ _ _ _ _ _ _ _ _ _ _ _ _ _ _ _ _ _ _ _ _ _ _ _ _ _ _ _ _ _ _ _ _ _ _ _ _ _ _ _ _ _ _ _ _ _ _ _ _ _ _ _ _ _ _ _ _ _ _ _ _ _ _ _ _ _ _ _ _ _ _ _ _ _ _ _ _ _ _ _ _ _ _ _ _ _ _ _ _ _ _ _ _ _ _ _ _ _ _ _ _ _ _ _ _ _ _ _ _ _ _ _ _ _ _ _ _ _ _ _ _ _ _ _ _ _ _ _ _ _ _ _ _ _ _ _ _ _ _ _ _ _ _ _ _ _ _ _ _ _ _ _ _ _ _ _ _ _ _ _ _ _ _ _ _ _ _ _ _ _ _ _ _ _ _ _ _ _ _ _ _ _ _ HR.out.go.symm HR.out.below HR.out.tp
    | succ k =>
      have hlen := HR.out.len
      have hC0 := Kd.C_below HR.out.hC HR.out.below
      obtain ⟨ad, q0, hA, hq0, _, y0, _⟩ := item_nat hC0 0 (by omega)
      obtain ⟨ad1, q1, hA1, hq1, _, _, z1⟩ := item_nat hC0 1 (by omega)
      obtain ⟨ad2, q2, hA2, hq2, _, y2, _⟩ := item_nat hC0 2 (by omega)
      obtain ⟨ad3, q3, hA3, hq3, _, _, z3⟩ := item_nat hC0 3 (by omega)
      obtain ⟨ad4, q4, hA4, hq4, _, _, z4⟩ := item_nat hC0 4 (by omega)
      subst hA
      cases hA1
      cases hA2
      cases hA3
      cases hA4
      obtain ⟨r, hr⟩ : ∃ r, recOf l1 = r := ⟨_, rfl⟩
      have hr0 : r = ⟨q0.n, q1.s, q2.n, q3.s, q4.s⟩ := by rw [← hr, recOf, hq0, hq1, hq2, hq3, hq4]
      have k0 : wr.cell? ⟨ad.block, ad.off + 1, none⟩ = some (.int .u64 r.off) := by rw [hr0]; exact y0
      have k1 : wr.cell? ⟨ad.block, ad.off + 3 + 2, none⟩ = some (.string r.prod) := by rw [hr0]; exact z1
      have k2 : wr.cell? ⟨ad.block, ad.off + 6 + 1, none⟩ = some (.int .u64 r.seq) := by rw [hr0]; exact y2
      have k3 : wr.cell? ⟨ad.block, ad.off + 9 + 2, none⟩ = some (.string r.key) := by rw [hr0]; exact z3
      have k4 : wr.cell? ⟨ad.block, ad.off + 12 + 2, none⟩ = some (.string r.val) := by rw [hr0]; exact z4
      have kt : wr.cell? ⟨a, 2, none⟩ = some (.int .i64 T.fin) := HR.out.tp.c2
      have hmem := items5 (l := l1) (by omega)
      have p0 := HR.out.pos _ hmem.1
      have p2 := HR.out.pos _ hmem.2
      have hgo := HR.out.go
      rw [loadRecs, hr] at hgo
      rw [hq0, show q0.n = r.off by rw [hr0]] at p0
      rw [hq2, show q2.n = r.seq by rw [hr0]] at p2
      have hc1 := HR.out.hc
      have HGO1 := Lib.hid hgo
      have L0 := HR.out.least0
      have L1 := HR.out.least1
      clear y0 y2 z1 z3 z4 hC0 hmem hgo hq0 hq1 hq2 hq3 hq4 hr0 hr
      go_wp2
      refine load_r16 wr ad _ c1 a r.seq r.off T.fin (by omega) p2 p0 hf0 hf1 _ _ _ _ _ _ _ _ _ _ _ _ _ _ _ _ _ _ _ _ _ _ _ _ _ _ _ _ _ _ _ _ _ _ _ _ _ _ _ _ _ _ _ _ _ _ _ _ _ _ _ _ _ _ _ _ _ _ _ _ _ _ _ _ _ _ _ _ _ _ _ _ _ _ _ _ _ _ _ _ _ _ _ _ _ _ _ _ _ _ _ _ _ _ _ _ _ _ _ _ _ _ _ _ _ _ _ _ _ _ _ _ _ _ _ _ _ _ _ _ _ _ _ _ _ _ _ _ _ _ _ _ _ _ _ _ _ _ _ _ _ _ _ _ _ _ _ _ _ _ _ _ _ _ _ _ _ _ _ _ _ _ _ _ _ _ _ _ _ _ _ _ _ _ _ _ _ _ _ _ _ _ _ _ _ _ _ _ _ _ _ _ _ _ _ _ k0 k2 kt ?_
      intro w' u134 u135 u136 u137 u138 u139 u140 u141 u142 u143 u144 u145 u146 u147 u148 u149 bad hbd hb'
      have hT1 := HR.out.tp.below hb'
      have hbb := below_step HR.out.below hb'
      have HT1 := Lib.hid hT1
      have HBB := Lib.hid hbb
      cases bad
      · have hgo2 := HGO1.out.symm.trans (if_neg (by rw [← hbd]; exact Bool.false_ne_true))
        have hb2 := Bool.or_eq_false_iff.1 hbd.symm
        have b1 : r.off < T.fin := by have := of_decide_eq_false hb2.1; omega
        have b2 : r.seq ≤ 9007199254740991 := by have := of_decide_eq_false hb2.2; omega
        have HGO2 := Lib.hid hgo2
        have k0' := pw_cell_below hb' k0
        have k1' := pw_cell_below hb' k1
        have k2' := pw_cell_below hb' k2
        have k3' := pw_cell_below hb' k3
        have k4' := pw_cell_below hb' k4
        clear k0 k1 k2 k3 k4 kt hT1 hbb hb' hbd hgo2 hb2
        go_wp2
        refine load_r18 w' ad _ c1 r (by omega) p0 p2 (by omega) b2 _ _ _ _ _ _ _ _ _ _ _ _ _ _ _ _ _ _ _ _ _ _ _ _ _ _ _ _ _ _ _ _ _ _ _ _ _ _ _ _ _ _ _ _ _ _ _ _ _ _ _ _ _ _ _ _ _ _ _ _ _ _ _ _ _ _ _ _ _ _ _ _ _ _ _ _ _ _ _ _ _ _ _ _ _ _ _ _ _ _ _ _ _ _ _ _ _ _ _ _ _ _ _ _ _ _ _ _ _ _ _ _ _ _ _ _ _ _ _ _ _ _ _ _ _ _ _ _ _ _ _ _ _ _ _ _ _ _ _ _ _ _ _ _ _ _ _ _ _ _ _ _ _ _ _ _ _ _ _ _ _ _ _ _ _ _ _ _ _ _ _ _ _ _ _ _ _ _ _ _ _ _ _ _ _ _ _ _ _ _ _ _ _ _ _ _ _ k0' k1' k2' k3' k4' ?_
        intro w2 u151 u152 u153 u154 u155 u156 u157 u158 u159 u160 u161 u162 u163 u164 u165 u166 u167 u168 u169 u170 u171 u172 u173 b hbx hbl
        have hR := fun W => segRight_any r W
        have hb3 := below_step HBB.out hbx.below
        have hT2 := HT1.out.below hbx.below
        have HT2 := Lib.hid hT2
        have HB3 := Lib.hid hb3
        have HBX := Lib.hid hbx
        clear k0' k1' k2' k3' k4' hb3 hT2 hbx
        have g0 := cell_blk (j := 0) HBX.out.blk rfl
        have g1 := cell_blk (j := 1) HBX.out.blk rfl
        have g2 := cell_blk (j := 2) HBX.out.blk rfl
        have g3 := cell_blk (j := 3) HBX.out.blk rfl
        have g4 := cell_blk (j := 4) HBX.out.blk rfl
        by_cases hg : rightB r = true
        · rw [hg] at hR
          have HRG := Lib.hid hR
          clear hR
          by_cases hle : e1 ≤ r.off
          · have HGO3 := Lib.hid (HGO2.out.trans (if_pos ⟨hg, hle⟩))
            have hsm := HR.out.small
            have hle' : ¬ r.off < e1 := by omega
            clear hg
            go_wp2_with (go_at_call 35; refine (HRG.out _).mono ?_; rintro e w3 ⟨rfl, hb4⟩; have hbx3 := HBX.out.later hb4; have x0 := cell_blk (j := 0) hbx3.blk rfl; have HBX3 := Lib.hid hbx3; have HB4 := Lib.hid (below_step HB3.out hb4); have HT3 := Lib.hid (HT2.out.below hb4); clear hbx3 hb4)
            refine load_r22 w3 _ a bm b rv1 { T with recs := o1 } r HT3.out HBX3.out.blk (by show o1.length ≤ 1000000; omega) _ _ _ _ _ _ _ _ _ _ _ _ _ _ _ _ _ _ _ _ _ _ _ _ _ _ _ _ _ _ _ _ _ _ _ _ _ _ _ _ _ _ _ _ _ _ _ _ _ _ _ _ _ _ _ _ _ _ _ _ _ _ _ _ _ _ _ _ _ _ _ _ _ _ _ _ _ _ _ _ _ _ _ _ _ _ _ _ _ _ _ _ _ _ _ _ _ _ _ _ _ _ _ _ _ _ _ _ _ _ _ _ _ _ _ _ _ _ _ _ _ _ _ _ _ _ _ _ _ _ _ _ _ _ _ _ _ _ _ _ _ _ _ _ _ _ _ _ _ _ _ _ _ _ _ _ _ _ _ _ _ _ _ _ _ _ _ _ _ _ _ _ _ _ _ _ _ _ _ _ _ _ _ _ _ _ _ _ _ _ _ _ _ _ _ _ ?_
            intro w5 rv5 u186 u187 u188 u189 u190 u191 u192 u193 u194 u195 hT5 ht5
            go_wp2
            have hb5 : Below W.heap.size W w5 := ((Turned.of_below HB4.out).trans ht5 (fun i hi => .inr hi) : Turned (fun _ => False) W w5).below
            have hC2 := Kd.C_drop HR.out.hC (m := 5) (by omega) HR.out.hc
            have hl2 : (l1.drop 5).length = l1.length - 5 := List.length_drop
            refine ⟨⟨l1.drop 5, _, c1 - 5, k, r.off + 1, o1 ++ [r], rv5, ?_, rfl, ⟨hC2, by omega, hb5, hT5.mono (fun i hi => hi.elim id (fun h => Nat.le_trans HB4.out.size h)), HGO3.out.symm, by omega, fun x hx => HR.out.pos x (List.mem_of_mem_drop hx), ?_, by omega, by omega⟩⟩, ?_⟩
            · rw [hl2, hlen]; rfl
            · rw [List.length_append, List.length_singleton]; omega
            · simp [lenOf]; omega
          · have HGO3 := Lib.hid (HGO2.out.trans (if_neg (fun h => hle h.2)))
            have hle' : r.off < e1 := by omega
            clear hg hle
            go_wp2_with (go_at_call 35; refine (HRG.out _).mono ?_; rintro e w3 ⟨rfl, hb4⟩; have hbx3 := HBX.out.later hb4; have x0 := cell_blk (j := 0) hbx3.blk rfl; have HBX3 := Lib.hid hbx3; have HB4 := Lib.hid (below_step HB3.out hb4); have HT3 := Lib.hid (HT2.out.below hb4); clear hbx3 hb4)
            exact HBAD.out HGO3.out _ _ _ _ _ _ _ _ _ _ _ _ _ _ _ _ _ _ _ _ _ _ _ _ _ _ _ _ _ _ _ _ _ _ _ _ _ _ _ _ _ _ _ _ _ _ _ _ _ _ _ _ _ _ _ _ _ _ _ _ _ _ _ _ _ _ _ _ _ _ _ _ _ _ _ _ _ _ _ _ _ _ _ _ _ _ _ _ _ _ _ _ _ _ _ _ _ _ _ _ _ _ _ _ _ _ _ _ _ _ _ _ _ _ _ _ _ _ _ _ _ _ _ _ _ _ _ _ _ _ _ _ _ _ _ _ _ _ _ _ _ _ _ _ _ _ _ _ _ _ _ _ _ _ _ _ _ _ _ _ _ _ _ _ _ _ _ _ _ _ _ _ _ _ _ _ _ _ _ _ _ _ _ _ _ _ _ _ _ _ _ _ _ _ _ _ HB4.out
        · have HGO3 := Lib.hid (HGO2.out.trans (if_neg (fun h => hg h.1)))
          rw [show rightB r = false by simpa using hg] at hR
          have HRG := Lib.hid hR
          clear hR hg
          go_wp2_with (go_at_call 35; refine (HRG.out _).mono ?_; rintro e w3 ⟨rfl, hb4⟩; have hbx3 := HBX.out.later hb4; have x0 := cell_blk (j := 0) hbx3.blk rfl; have HBX3 := Lib.hid hbx3; have HB4 := Lib.hid (below_step HB3.out hb4); have HT3 := Lib.hid (HT2.out.below hb4); clear hbx3 hb4)
          exact HBAD.out HGO3.out _ _ _ _ _ _ _ _ _ _ _ _ _ _ _ _ _ _ _ _ _ _ _ _ _ _ _ _ _ _ _ _ _ _ _ _ _ _ _ _ _ _ _ _ _ _ _ _ _ _ _ _ _ _ _ _ _ _ _ _ _ _ _ _ _ _ _ _ _ _ _ _ _ _ _ _ _ _ _ _ _ _ _ _ _ _ _ _ _ _ _ _ _ _ _ _ _ _ _ _ _ _ _ _ _ _ _ _ _ _ _ _ _ _ _ _ _ _ _ _ _ _ _ _ _ _ _ _ _ _ _ _ _ _ _ _ _ _ _ _ _ _ _ _ _ _ _ _ _ _ _ _ _ _ _ _ _ _ _ _ _ _ _ _ _ _ _ _ _ _ _ _ _ _ _ _ _ _ _ _ _ _ _ _ _ _ _ _ _ _ _ _ _ _ _ _ HB4.out
      · have HGO2 := Lib.hid (HGO1.out.symm.trans (if_pos hbd.symm))
        clear k0 k1 k2 k3 k4 kt hT1 hbb hb' hbd
        go_wp2
        exact HBAD.out HGO2.out _ _ _ _ _ _ _ _ _ _ _ _ _ _ _ _ _ _ _ _ _ _ _ _ _ _ _ _ _ _ _ _ _ _ _ _ _ _ _ _ _ _ _ _ _ _ _ _ _ _ _ _ _ _ _ _ _ _ _ _ _ _ _ _ _ _ _ _ _ _ _ _ _ _ _ _ _ _ _ _ _ _ _ _ _ _ _ _ _ _ _ _ _ _ _ _ _ _ _ _ _ _ _ _ _ _ _ _ _ _ _ _ _ _ _ _ _ _ _ _ _ _ _ _ _ _ _ _ _ _ _ _ _ _ _ _ _ _ _ _ _ _ _ _ _ _ _ _ _ _ _ _ _ _ _ _ _ _ _ _ _ _ _ _ _ _ _ _ _ _ _ _ _ _ _ _ _ _ _ _ _ _ _ _ _ _ _ _ _ _ _ _ _ _ _ _ HBB.out
end Go.Proofs.YtdbnanniboiooaaDoor
namespace Go.Proofs.Carillon
/-- What is made in full has the letters' items, and whole rounds behind them. -/
theorem decGo_rounds {t : List UInt8} (ht : t ≠ []) : ∀ (n : Nat) (cs rest : List UInt8) (out : List Itm), (decGo t n cs rest out).2 = 0 → ∃ j, (decGo t n cs rest out).1.length = out.length + cs.length + t.length * j := by
  intro n
  induction n with
  | zero =>
    intro cs rest out h
    by_cases hd : cs = [] ∧ rest = []
    · rw [hd.1, hd.2, decGo_done]; exact ⟨0, by simp⟩
    · obtain ⟨c, cs', hc⟩ := next_letter (cs := cs) ht
      rw [decGo_step t 0 cs rest out c cs' hd hc] at h
      simp at h
  | succ n ih =>
    intro cs rest out h
    by_cases hd : cs = [] ∧ rest = []
    · rw [hd.1, hd.2, decGo_done]; exact ⟨0, by simp⟩
    · obtain ⟨c, cs', hc⟩ := next_letter (cs := cs) ht
      rw [decGo_step t (n + 1) cs rest out c cs' hd hc] at h ⊢
      simp only at h ⊢
      by_cases he : (readItem c rest).2.2 = 0
      · rw [if_pos he] at h ⊢
        obtain ⟨j, hj⟩ := ih cs' _ _ h
        rw [List.length_append, List.length_singleton] at hj
        by_cases hz : cs = []
        · rw [if_pos hz] at hc
          have htl : t.length = cs'.length + 1 := by rw [hc, List.length_cons]
          refine ⟨j + 1, ?_⟩
          rw [hj, hz, List.length_nil, Nat.mul_add, Nat.mul_one]; omega
        · rw [if_neg hz] at hc
          exact ⟨j, by rw [hj, hc, List.length_cons]; omega⟩
      · rw [if_neg he] at h
        exact absurd h he
theorem readItem_pos (c : UInt8) (l : List UInt8) : 0 ≤ (readItem c l).1.n := by
  unfold readItem
  split
  · exact Int.le_refl _
  · split
    · exact Int.le_refl _
    · exact Int.natCast_nonneg _
theorem decGo_pos (t : List UInt8) : ∀ (n : Nat) (cs rest : List UInt8) (out : List Itm), out.length + n ≤ 1000 → (∀ x ∈ out, 0 ≤ x.n) → (decGo t n cs rest out).1.length ≤ 1000 ∧ ∀ x ∈ (decGo t n cs rest out).1, 0 ≤ x.n := by
  intro n
  induction n with
  | zero =>
    intro cs rest out hn h
    unfold decGo
    split
    · exact ⟨by simpa using hn, h⟩
    · split <;> exact ⟨by simp, by simp⟩
  | succ n ih =>
    intro cs rest out hn h
    unfold decGo
    split
    · exact ⟨by simp; omega, h⟩
    · split
      · exact ⟨by simp, by simp⟩
      · simp only
        split
        · refine ih _ _ _ (by rw [List.length_append, List.length_singleton]; omega) ?_
          intro x hx
          rcases List.mem_append.1 hx with hx | hx
          · exact h x hx
          · rw [List.mem_singleton.1 hx]; exact readItem_pos _ _
        · exact ⟨by simp, by simp⟩
theorem first_good (s : List UInt8) : (∃ n, n ≤ 333 ∧ goodN s n ∧ ∀ m, m < n → ¬ goodN s m) ∨ (∀ m, m ≤ 333 → ¬ goodN s m) := by
  have key : ∀ N, (∃ n, n < N ∧ goodN s n ∧ ∀ m, m < n → ¬ goodN s m) ∨ (∀ m, m < N → ¬ goodN s m) := by
    intro N
    induction N with
    | zero => exact .inr (fun m h => absurd h (Nat.not_lt_zero m))
    | succ N ih =>
      rcases ih with ⟨n, h1, h2⟩ | h
      · exact .inl ⟨n, by omega, h2⟩
      · by_cases hg : goodN s N
        · exact .inl ⟨N, by omega, hg, h⟩
        · refine .inr (fun m hm => ?_)
          by_cases e : m = N
          · rw [e]; exact hg
          · exact h m (by omega)
  rcases key 334 with ⟨n, h1, h2⟩ | h
  · exact .inl ⟨n, by omega, h2⟩
  · exact .inr (fun m hm => h m (by omega))
end Go.Proofs.Carillon
namespace Go.Proofs.YtdbnanniboiooaaDoor
open Go.RowKit Go.Proofs.Carillon Go.Proofs.YtdbnanniboiooaaDoorW.PrintWords Go.Lib Go.Shelf
def loadFrom (n : Nat) (l : List Itm) : Option Tp :=
  if (!(wordB (l.getD 0 zItm).s) || decide ((l.getD 2 zItm).n < (l.getD 1 zItm).n) || decide (9007199254740991 < (l.getD 2 zItm).n)) = true then none else
  match loadProds (l.getD 2 zItm).n n (l.drop 4) ⟨#[]⟩ [] with
  | none => none
  | some (m, l') => (loadRecs (l.getD 2 zItm).n (l'.length / 5) l' (l.getD 1 zItm).n []).map fun out => ⟨(l.getD 0 zItm).s, (l.getD 1 zItm).n, (l.getD 2 zItm).n, m, out⟩
/-- What Load makes of bytes: a topic, or none. -/
def Loads (s : List UInt8) (R : Option Tp) : Prop := (∃ n, n ≤ 333 ∧ goodN s n ∧ (∀ m, m < n → ¬ goodN s m) ∧ loadFrom n (tryN s n).1 = R) ∨ ((∀ m, m ≤ 333 → ¬ goodN s m) ∧ R = none)
def LoadPost (w : World) (R : Option Tp) (e : Ending) (w' : World) : Prop :=
  Below w.heap.size w w' ∧ ((R = none ∧ e = .returned (.tuple #[.pointer none, .int .i64 10])) ∨ (∃ T a, R = some T ∧ e = .returned (.tuple #[.pointer (some ⟨a, 0, none⟩), .int .i64 0]) ∧ TopicHere w' (fun k => w.heap.size ≤ k) a T))

set_option maxRecDepth 100000 in
set_option maxHeartbeats 4000000 in
theorem load_none (w : World) (s : List UInt8) (hS : SizesAt w) (hs : s.length ≤ 1000000000) (hno : ∀ m, m ≤ 333 → ¬ goodN s m) :
    Calls Tryd.prog 16 #[.string (strB s)] w (LoadPost w none) := by
  have hI : ∀ W, Below w.heap.size w W → Calls Tryd.prog 33 #[.string (strB s)] W (fun e w' => Below W.heap.size W w' ∧ e = .returned (.tuple #[.slice none 0 0, .int .i64 0, .bool false])) := fun W hb =>
    (items_any W s (hS.below hb) hs).mono (fun e w' h => ⟨h.1, h.2.elim (fun ⟨n, v, h1, h2, _⟩ => absurd h2 (hno n h1)) (fun h => h.2)⟩)
  have HI := Lib.hid hI
  clear hI hno
  go_enter Tryd.func16, Tryd.ntmps16
  go_wp2_with (go_at_call 33; refine (HI.out _ (Below.refl _ _)).mono ?_; rintro e w1 ⟨hb, rfl⟩)
  refine load_r2_no w1 _ _ _ _ _ _ _ _ _ _ _ _ _ _ _ _ _ _ _ _ _ _ _ _ _ _ _ _ _ _ _ _ _ _ _ _ _ _ _ _ _ _ _ _ _ _ _ _ _ _ _ _ _ _ _ _ _ _ _ _ _ _ _ _ _ _ _ _ _ _ _ _ _ _ _ _ _ _ _ _ _ _ _ _ _ _ _ _ _ _ _ _ _ _ _ _ _ _ _ _ _ _ _ _ _ _ _ _ _ _ _ _ _ _ _ _ _ _ _ _ _ _ _ _ _ _ _ _ _ _ _ _ _ _ _ _ _ _ _ _ _ _ _ _ _ _ _ _ _ _ _ _ _ _ _ _ _ _ _ _ _ _ _ _ _ _ _ _ _ _ _ _ _ _ _ _ _ _ _ _ _ _ _ _ _ _ _ _ _ _ _ _ _ _ _ _ _ ?_
  intro nq u17 u18 u19 u20 u21 u22 u23 u24 u25 u26 u27 u28 u29 u30 u31 u32 u33 u34 u35 u36 u37 u38 u39 u40 u41 u42 u43
  go_wp2
  go_ret2
  exact ⟨pw_below_drewN hb nq, .inl ⟨rfl, rfl⟩⟩

theorem loadProds_some {fi : Int} : ∀ (n : Nat) (l : List Itm) (pv : ByteArray) (m m' : List (ByteArray × (Int × Int))) (l' : List Itm), loadProds fi n l pv m = some (m', l') → l' = l.drop (3 * n) := by
  intro n
  induction n with
  | zero => intro l pv m m' l' h; simp [loadProds] at h; simp [h.2]
  | succ n ih =>
    intro l pv m m' l' h
    rw [loadProds] at h
    split at h
    · simp at h
    · rw [ih _ _ _ _ _ h, List.drop_drop]; congr 1; omega
theorem items_first (w : World) (s : List UInt8) (n : Nat) (hS : SizesAt w) (hs : s.length ≤ 1000000000) (hn : n ≤ 333) (hg : goodN s n) (hmin : ∀ m, m < n → ¬ goodN s m) :
    Calls Tryd.prog 33 #[.string (strB s)] w (fun e w' => Below w.heap.size w w' ∧ ∃ v, e = .returned (.tuple #[v, .int .i64 (n : Nat), .bool true]) ∧ ItemsAt w' (fun i => w.heap.size ≤ i) v (tryN s n).1) :=
  (items_any w s hS hs).mono (fun e w' h => ⟨h.1, h.2.elim (fun ⟨n', v, h1, h2, h3, h4, h5⟩ => by
    obtain rfl : n' = n := by
      rcases Nat.lt_trichotomy n' n with h | h | h
      · exact absurd h2 (hmin _ h)
      · exact h
      · exact absurd hg (h3 _ h)
    exact ⟨v, h4, h5⟩) (fun h => absurd hg (h.1 n hn))⟩)

set_option maxRecDepth 100000 in
set_option maxHeartbeats 8000000 in
theorem load_some (w : World) (s : List UInt8) (n : Nat) (hS : SizesAt w) (hs : s.length ≤ 1000000000) (hn : n ≤ 333) (hg : goodN s n) (hmin : ∀ m, m < n → ¬ goodN s m) :
    Calls Tryd.prog 16 #[.string (strB s)] w (LoadPost w (loadFrom n (tryN s n).1)) := by
  have hI := items_first w s n hS hs hn hg hmin
  obtain ⟨j, hj⟩ := decGo_rounds (t := tT) (by decide) 1000 (hN n) s [] hg.1
  have hps := decGo_pos tT 1000 (hN n) s [] (by simp) (by simp)
  rw [show decGo tT 1000 (hN n) s [] = tryN s n from rfl] at hj hps
  rw [hN_length, List.length_nil, Nat.zero_add, show tT.length = 5 from rfl] at hj
  obtain ⟨l, hl⟩ : ∃ l, (tryN s n).1 = l := ⟨_, rfl⟩
  rw [hl] at hI hj hps
  rw [hl]
  obtain ⟨hlen, hpos⟩ := hps
  have hP : ∀ R e w', loadFrom n l = R → LoadPost w R e w' → LoadPost w (loadFrom n l) e w' := fun R e w' h k => h ▸ k
  have HI := Lib.hid hI
  have HPOS := Lib.hid hpos
  have hl4 : 4 + 3 * n ≤ l.length := by omega
  have HJ := Lib.hid hj
  clear hI hpos hl hg hmin hS hj
  go_enter Tryd.func16, Tryd.ntmps16
  go_wp2_with (go_at_call 33; refine HI.out.mono ?_; rintro e w1 ⟨hb, v, rfl, hits⟩; obtain ⟨A, c, rfl, hle, hC⟩ := Kd.R_reads hits)
  obtain ⟨ad, q0, hA, hq0, _, _, z0⟩ := item_nat hC 0 (by omega)
  obtain ⟨ad1, q1, hA1, hq1, _, y1, _⟩ := item_nat hC 1 (by omega)
  obtain ⟨ad2, q2, hA2, hq2, _, y2, _⟩ := item_nat hC 2 (by omega)
  subst hA
  cases hA1
  cases hA2
  have k0 : w1.cell? ⟨ad.block, ad.off + 2, none⟩ = some (.string q0.s) := z0
  have k1 : w1.cell? ⟨ad.block, ad.off + 3 + 1, none⟩ = some (.int .u64 q1.n) := y1
  have k2 : w1.cell? ⟨ad.block, ad.off + 6 + 1, none⟩ = some (.int .u64 q2.n) := y2
  have hmem := items3 (l := l) (by omega)
  have p1 := HPOS.out _ hmem.2.1
  have p2 := HPOS.out _ hmem.2.2
  have hLF : loadFrom n l = _ := loadFrom.eq_1 n l
  rw [hq0, hq1, hq2] at hLF
  rw [hq1] at p1
  rw [hq2] at p2
  have HC := Lib.hid hC
  have HB := Lib.hid hb
  have HP := Lib.hid hP
  clear z0 y1 y2 hmem hC hb hP hits
  refine load_r2 w1 ad _ c q0.s q1.n q2.n (by omega) p1 p2 _ _ _ _ _ _ _ _ _ _ _ _ _ _ _ _ _ _ _ _ _ _ _ _ _ _ _ _ _ _ _ _ _ _ _ _ _ _ _ _ _ _ _ _ _ _ _ _ _ _ _ _ _ _ _ _ _ _ _ _ _ _ _ _ _ _ _ _ _ _ _ _ _ _ _ _ _ _ _ _ _ _ _ _ _ _ _ _ _ _ _ _ _ _ _ _ _ _ _ _ _ _ _ _ _ _ _ _ _ _ _ _ _ _ _ _ _ _ _ _ _ _ _ _ _ _ _ _ _ _ _ _ _ _ _ _ _ _ _ _ _ _ _ _ _ _ _ _ _ _ _ _ _ _ _ _ _ _ _ _ _ _ _ _ _ _ _ _ _ _ _ _ _ _ _ _ _ _ _ _ _ _ _ _ _ _ _ _ _ _ _ _ _ _ _ _ k0 k1 k2 ?_
  intro w' u17 u18 u19 u20 u21 u22 u23 u24 u25 u26 u27 u28 u29 u30 u31 u32 u33 u34 u35 u36 u37 u38 u39 u40 u41 u42 u43 bad hbd hb'
  cases bad
  · have hgo := hLF.trans (if_neg (by rw [← hbd]; exact Bool.false_ne_true))
    have hbo := Bool.or_eq_false_iff.1 hbd.symm
    have hbo1 := (Bool.or_eq_false_iff.1 hbo.1).2
    have b1 : q1.n ≤ q2.n := by have := of_decide_eq_false hbo1; omega
    have b2 : q2.n ≤ 9007199254740991 := by have := of_decide_eq_false hbo.2; omega
    have k0' := pw_cell_below hb' k0
    have k1' := pw_cell_below hb' k1
    have k2' := pw_cell_below hb' k2
    have hC4 : kItem.C w' (if c = 4 then some ad else some ⟨ad.block, ad.off + 12, none⟩) (l.drop 4).length (l.drop 4) := Kd.C_drop (Kd.C_below HC.out hb') (m := 4) (by omega) hle
    have HC4 := Lib.hid hC4
    have HB1 := Lib.hid (below_step HB.out hb')
    obtain ⟨R1, hR1⟩ : ∃ R1, loadProds q2.n n (l.drop 4) ⟨#[]⟩ [] = R1 := ⟨_, rfl⟩
    rw [hR1] at hgo
    have HGO := Lib.hid hgo
    have HR1 := Lib.hid hR1
    have hld : (l.drop 4).length = l.length - 4 := List.length_drop
    have hl1 : 3 * n ≤ (l.drop 4).length := by omega
    have hl2 : (l.drop 4).length ≤ c - 4 := by omega
    have hl5 : 4 ≤ l.length := by omega
    have HLD := Lib.hid hld
    clear hLF hgo hR1 hbo hbo1 hbd k0 k1 k2 hC4 hb' hld
    go_wp2
    refine load_r4 w' ad _ c q0.s q1.n q2.n hl5 p1 p2 (by omega) b2 _ _ _ _ _ _ _ _ _ _ _ _ _ _ _ _ _ _ _ _ _ _ _ _ _ _ _ _ _ _ _ _ _ _ _ _ _ _ _ _ _ _ _ _ _ _ _ _ _ _ _ _ _ _ _ _ _ _ _ _ _ _ _ _ _ _ _ _ _ _ _ _ _ _ _ _ _ _ _ _ _ _ _ _ _ _ _ _ _ _ _ _ _ _ _ _ _ _ _ _ _ _ _ _ _ _ _ _ _ _ _ _ _ _ _ _ _ _ _ _ _ _ _ _ _ _ _ _ _ _ _ _ _ _ _ _ _ _ _ _ _ _ _ _ _ _ _ _ _ _ _ _ _ _ _ _ _ _ _ _ _ _ _ _ _ _ _ _ _ _ _ _ _ _ _ _ _ _ _ _ _ _ _ _ _ _ _ _ _ _ _ _ _ _ _ _ _ k0' k1' k2' ?_
    intro w2 u45 u46 u47 u48 u49 u50 u51 u52 u53 u54 u55 u56 u57 u58 u59 u60 u61 a bm hT hb2
    by_cases hc4 : c = 4
    · have hC5 : kItem.C w' (some ad) (l.drop 4).length (l.drop 4) := by have := HC4.out; rw [if_pos hc4] at this; exact this
      subst hc4
      have hnil : l.drop 4 = [] := List.eq_nil_of_length_eq_zero (by have := HLD.out; omega)
      have hr1 := HR1.out
      rw [hnil] at hC5 hr1 hl1 hl2
      clear HC4
      go_wp2
      refine load_loop1 w' w2 (fun k => w'.heap.size ≤ k) a bm (.slice none 0 0) ⟨q0.s, q1.n, q2.n, [], []⟩ R1 [] _ _ n (fun _ h => h) p2 b2 ⟨hC5, hl2, hb2, hT, hr1, hl1, fun x hx => by simp at hx, by simp; omega⟩ _ _ _ _ _ _ _ _ _ _ _ _ _ _ _ _ _ _ _ _ _ _ _ _ _ _ _ _ _ _ _ _ _ _ _ _ _ _ _ _ _ _ _ _ _ _ _ _ _ _ _ _ _ _ _ _ _ _ _ _ _ _ _ _ _ _ _ _ _ _ _ _ _ _ _ _ _ _ _ _ _ _ _ _ _ _ _ _ _ _ _ _ _ _ _ _ _ _ _ _ _ _ _ _ _ _ _ _ _ _ _ _ _ _ _ _ _ _ _ _ _ _ _ _ _ _ _ _ _ _ _ _ _ _ _ _ _ _ _ _ _ _ _ _ _ _ _ _ _ _ _ _ _ _ _ _ _ _ _ _ _ _ _ _ _ _ _ _ _ _ _ _ _ _ _ _ _ _ _ _ _ _ _ _ _ _ _ _ _ _ _ _ _ _ ?_ ?_
      · intro hn w3 u0 u1 u4 u5 u6 u7 u8 u9 u10 u11 u12 u13 u14 u15 u16 u17 u18 u19 u20 u21 u22 u23 u24 u25 u26 u27 u28 u29 u30 u31 u32 u33 u34 u35 u36 u37 u38 u39 u40 u41 u42 u43 u44 u45 u46 u47 u48 u49 u50 u51 u52 u53 u54 u55 u56 u57 u58 u59 u60 u61 u62 u63 u64 u65 u66 u67 u68 u69 u70 u71 u72 u73 u74 u75 u76 u77 u78 u79 u80 u81 u82 u83 u84 u85 u86 u87 u88 u89 u90 u91 u92 u93 u94 u95 u96 u97 u98 u99 u100 u101 u102 u103 u104 u105 u106 u107 u108 u109 u110 u111 u112 u113 u114 u115 u116 u117 u118 u119 u120 u121 u122 u123 u124 u125 u126 u127 u128 u129 u130 u131 u132 u133 u134 u135 u136 u137 u138 u139 u140 u141 u142 u143 u144 u145 u146 u147 u148 u149 u150 u151 u152 u153 u154 u155 u156 u157 u158 u159 u160 u161 u162 u163 u164 u165 u166 u167 u168 u169 u170 u171 u172 u173 u174 u175 u176 u177 u178 u179 u180 u181 u182 u183 u184 u185 u186 u187 u188 u189 u190 u191 u192 u193 u194 u195 u196 hb3
        change bodyPost Tryd.prog Tryd.f16 (LoadPost w (loadFrom n l)) .ret _ _
        go_ret2
        exact HP.out none _ _ (by rw [HGO.out, hn]) ⟨below_step HB1.out hb3, .inl ⟨rfl, rfl⟩⟩
      · intro l' m A' c' w3 u0 u1 u2 u3 u5 u6 u8 u9 u10 u11 u12 u13 u14 u15 u16 u17 u18 u19 u20 u21 u22 u23 u24 u25 u26 u27 u28 u29 u30 u31 u32 u33 u34 u35 u36 u37 u38 u39 u40 u41 u42 u43 u44 u45 u46 u47 u48 u49 u50 u51 u52 u53 u54 u55 u56 u57 u58 u59 u60 u61 u62 u63 u64 u65 u66 u67 u68 u69 u70 u71 u72 u73 u74 u75 u76 u77 u78 u79 u80 u81 u82 u83 u84 u85 u86 u87 u88 u89 u90 u91 u92 u93 u94 u95 u96 u97 u98 u99 u100 u101 u102 u103 u104 u105 u106 u107 u108 u109 u110 u111 u112 u113 u114 u115 u116 u117 u118 u119 u120 u121 u122 u123 u124 u125 u126 u127 u128 u129 u130 u131 u132 u133 u134 u135 u136 u137 u138 u139 u140 u141 u142 u143 u144 u145 u146 u147 u148 u149 u150 u151 u152 u153 u154 u155 u156 u157 u158 u159 u160 u161 u162 u163 u164 u165 u166 u167 u168 u169 u170 u171 u172 u173 u174 u175 u176 u177 u178 u179 u180 u181 u182 u183 u184 u185 u186 u187 u188 u189 u190 u191 u192 u193 u194 u195 u196 hR hC' hc' hb3 hT3
        have c1 := hT3.c1
        have hC6 := Lib.hid hC'
        have HT3 := Lib.hid hT3
        have HRR := Lib.hid hR
        clear hC' hT3 hR
        have hl' := loadProds_some n (l.drop 4) _ _ m l' (HR1.out.trans HRR.out)
        have hlj : l'.length = 5 * j := by rw [hl', List.length_drop]; have := HLD.out; have := HJ.out; omega
        have hpos' : ∀ x ∈ l', 0 ≤ x.n := fun x hx => HPOS.out x (List.mem_of_mem_drop (List.mem_of_mem_drop (hl' ▸ hx)))
        obtain ⟨R2, hR2⟩ : ∃ R2, loadRecs q2.n (l'.length / 5) l' q1.n [] = R2 := ⟨_, rfl⟩
        have hgo2 := HGO.out
        rw [HRR.out] at hgo2
        simp only at hgo2
        rw [hR2] at hgo2
        have HG2 := Lib.hid hgo2
        have hrel : RecRel w' a bm (.slice none 0 0) ⟨q0.s, q1.n, q2.n, m, []⟩ R2 l' A' c' (l'.length / 5) q1.n [] w3 := ⟨hC6.out, hc', hb3, HT3.out, hR2, by omega, hpos', by have := HLD.out; have := HJ.out; simp; omega, p1, by omega⟩
        have HREL := Lib.hid hrel
        clear hl' hlj hpos' hR2 hgo2 hrel
        go_wp2
        refine load_loop2 w' w3 a bm (.slice none 0 0) ⟨q0.s, q1.n, q2.n, m, []⟩ R2 l' A' c' (l'.length / 5) q1.n [] p2 b2 HREL.out _ _ _ _ _ _ _ _ _ _ _ _ _ _ _ _ _ _ _ _ _ _ _ _ _ _ _ _ _ _ _ _ _ _ _ _ _ _ _ _ _ _ _ _ _ _ _ _ _ _ _ _ _ _ _ _ _ _ _ _ _ _ _ _ _ _ _ _ _ _ _ _ _ _ _ _ _ _ _ _ _ _ _ _ _ _ _ _ _ _ _ _ _ _ _ _ _ _ _ _ _ _ _ _ _ _ _ _ _ _ _ _ _ _ _ _ _ _ _ _ _ _ _ _ _ _ _ _ _ _ _ _ _ _ _ _ _ _ _ _ _ _ _ _ _ _ _ _ _ _ _ _ _ _ _ _ _ _ _ _ _ _ _ _ _ _ _ _ _ _ _ _ _ _ _ _ _ _ _ _ _ _ _ _ _ _ _ _ _ _ _ _ _ _ _ ?_ ?_
        · intro hn w4 u0 u1 u4 u5 u6 u7 u8 u9 u10 u11 u12 u13 u14 u15 u16 u17 u18 u19 u20 u21 u22 u23 u24 u25 u26 u27 u28 u29 u30 u31 u32 u33 u34 u35 u36 u37 u38 u39 u40 u41 u42 u43 u44 u45 u46 u47 u48 u49 u50 u51 u52 u53 u54 u55 u56 u57 u58 u59 u60 u61 u62 u63 u64 u65 u66 u67 u68 u69 u70 u71 u72 u73 u74 u75 u76 u77 u78 u79 u80 u81 u82 u83 u84 u85 u86 u87 u88 u89 u90 u91 u92 u93 u94 u95 u96 u97 u98 u99 u100 u101 u102 u103 u104 u105 u106 u107 u108 u109 u110 u111 u112 u113 u114 u115 u116 u117 u118 u119 u120 u121 u122 u123 u124 u125 u126 u127 u128 u129 u130 u131 u132 u133 u134 u135 u136 u137 u138 u139 u140 u141 u142 u143 u144 u145 u146 u147 u148 u149 u150 u151 u152 u153 u154 u155 u156 u157 u158 u159 u160 u161 u162 u163 u164 u165 u166 u167 u168 u169 u170 u171 u172 u173 u174 u175 u176 u177 u178 u179 u180 u181 u182 u183 u184 u185 u186 u187 u188 u189 u190 u191 u192 u193 u194 u195 u196 hb4
          change bodyPost Tryd.prog Tryd.f16 (LoadPost w (loadFrom n l)) .ret _ _
          go_ret2
          exact HP.out none _ _ (by rw [HG2.out, hn]; rfl) ⟨below_step HB1.out hb4, .inl ⟨rfl, rfl⟩⟩
        · intro out' rv' w4 u0 u1 u2 u3 u4 u5 u6 u8 u9 u10 u11 u12 u13 u14 u15 u16 u17 u18 u19 u20 u21 u22 u23 u24 u25 u26 u27 u28 u29 u30 u31 u32 u33 u34 u35 u36 u37 u38 u39 u40 u41 u42 u43 u44 u45 u46 u47 u48 u49 u50 u51 u52 u53 u54 u55 u56 u57 u58 u59 u60 u61 u62 u63 u64 u65 u66 u67 u68 u69 u70 u71 u72 u73 u74 u75 u76 u77 u78 u79 u80 u81 u82 u83 u84 u85 u86 u87 u88 u89 u90 u91 u92 u93 u94 u95 u96 u97 u98 u99 u100 u101 u102 u103 u104 u105 u106 u107 u108 u109 u110 u111 u112 u113 u114 u115 u116 u117 u118 u119 u120 u121 u122 u123 u124 u125 u126 u127 u128 u129 u130 u131 u132 u133 u134 u135 u136 u137 u138 u139 u140 u141 u142 u143 u144 u145 u146 u147 u148 u149 u150 u151 u152 u153 u154 u155 u156 u157 u158 u159 u160 u161 u162 u163 u164 u165 u166 u167 u168 u169 u170 u171 u172 u173 u174 u175 u176 u177 u178 u179 u180 u181 u182 u183 u184 u185 u186 u187 u188 u189 u190 u191 u192 u193 u194 u195 u196 hR3 hb4 hT4
          have HT4 := Lib.hid hT4
          clear hT4
          go_wp2
          go_ret2
          exact HP.out (some ⟨q0.s, q1.n, q2.n, m, out'⟩) _ _ (by rw [HG2.out, hR3]; rfl) ⟨below_step HB1.out hb4, .inr ⟨_, a, rfl, rfl, (HT4.out.mono (fun i hi => Nat.le_trans HB1.out.size hi)).here⟩⟩
    · have hC5 : kItem.C w' (some ⟨ad.block, ad.off + 12, none⟩) (l.drop 4).length (l.drop 4) := by have := HC4.out; rw [if_neg hc4] at this; exact this
      clear HC4
      go_wp2
      rw [← HLD.out]
      refine load_loop1 w' w2 (fun k => w'.heap.size ≤ k) a bm (.slice none 0 0) ⟨q0.s, q1.n, q2.n, [], []⟩ R1 (l.drop 4) _ _ n (fun _ h => h) p2 b2 ⟨hC5, hl2, hb2, hT, HR1.out, hl1, fun x hx => HPOS.out x (List.mem_of_mem_drop hx), by simp; omega⟩ _ _ _ _ _ _ _ _ _ _ _ _ _ _ _ _ _ _ _ _ _ _ _ _ _ _ _ _ _ _ _ _ _ _ _ _ _ _ _ _ _ _ _ _ _ _ _ _ _ _ _ _ _ _ _ _ _ _ _ _ _ _ _ _ _ _ _ _ _ _ _ _ _ _ _ _ _ _ _ _ _ _ _ _ _ _ _ _ _ _ _ _ _ _ _ _ _ _ _ _ _ _ _ _ _ _ _ _ _ _ _ _ _ _ _ _ _ _ _ _ _ _ _ _ _ _ _ _ _ _ _ _ _ _ _ _ _ _ _ _ _ _ _ _ _ _ _ _ _ _ _ _ _ _ _ _ _ _ _ _ _ _ _ _ _ _ _ _ _ _ _ _ _ _ _ _ _ _ _ _ _ _ _ _ _ _ _ _ _ _ _ _ _ _ ?_ ?_
      · intro hn w3 u0 u1 u4 u5 u6 u7 u8 u9 u10 u11 u12 u13 u14 u15 u16 u17 u18 u19 u20 u21 u22 u23 u24 u25 u26 u27 u28 u29 u30 u31 u32 u33 u34 u35 u36 u37 u38 u39 u40 u41 u42 u43 u44 u45 u46 u47 u48 u49 u50 u51 u52 u53 u54 u55 u56 u57 u58 u59 u60 u61 u62 u63 u64 u65 u66 u67 u68 u69 u70 u71 u72 u73 u74 u75 u76 u77 u78 u79 u80 u81 u82 u83 u84 u85 u86 u87 u88 u89 u90 u91 u92 u93 u94 u95 u96 u97 u98 u99 u100 u101 u102 u103 u104 u105 u106 u107 u108 u109 u110 u111 u112 u113 u114 u115 u116 u117 u118 u119 u120 u121 u122 u123 u124 u125 u126 u127 u128 u129 u130 u131 u132 u133 u134 u135 u136 u137 u138 u139 u140 u141 u142 u143 u144 u145 u146 u147 u148 u149 u150 u151 u152 u153 u154 u155 u156 u157 u158 u159 u160 u161 u162 u163 u164 u165 u166 u167 u168 u169 u170 u171 u172 u173 u174 u175 u176 u177 u178 u179 u180 u181 u182 u183 u184 u185 u186 u187 u188 u189 u190 u191 u192 u193 u194 u195 u196 hb3
        change bodyPost Tryd.prog Tryd.f16 (LoadPost w (loadFrom n l)) .ret _ _
        go_ret2
        exact HP.out none _ _ (by rw [HGO.out, hn]) ⟨below_step HB1.out hb3, .inl ⟨rfl, rfl⟩⟩
      · intro l' m A' c' w3 u0 u1 u2 u3 u5 u6 u8 u9 u10 u11 u12 u13 u14 u15 u16 u17 u18 u19 u20 u21 u22 u23 u24 u25 u26 u27 u28 u29 u30 u31 u32 u33 u34 u35 u36 u37 u38 u39 u40 u41 u42 u43 u44 u45 u46 u47 u48 u49 u50 u51 u52 u53 u54 u55 u56 u57 u58 u59 u60 u61 u62 u63 u64 u65 u66 u67 u68 u69 u70 u71 u72 u73 u74 u75 u76 u77 u78 u79 u80 u81 u82 u83 u84 u85 u86 u87 u88 u89 u90 u91 u92 u93 u94 u95 u96 u97 u98 u99 u100 u101 u102 u103 u104 u105 u106 u107 u108 u109 u110 u111 u112 u113 u114 u115 u116 u117 u118 u119 u120 u121 u122 u123 u124 u125 u126 u127 u128 u129 u130 u131 u132 u133 u134 u135 u136 u137 u138 u139 u140 u141 u142 u143 u144 u145 u146 u147 u148 u149 u150 u151 u152 u153 u154 u155 u156 u157 u158 u159 u160 u161 u162 u163 u164 u165 u166 u167 u168 u169 u170 u171 u172 u173 u174 u175 u176 u177 u178 u179 u180 u181 u182 u183 u184 u185 u186 u187 u188 u189 u190 u191 u192 u193 u194 u195 u196 hR hC' hc' hb3 hT3
        have c1 := hT3.c1
        have hC6 := Lib.hid hC'
        have HT3 := Lib.hid hT3
        have HRR := Lib.hid hR
        clear hC' hT3 hR
        have hl' := loadProds_some n (l.drop 4) _ _ m l' (HR1.out.trans HRR.out)
        have hlj : l'.length = 5 * j := by rw [hl', List.length_drop]; have := HLD.out; have := HJ.out; omega
        have hpos' : ∀ x ∈ l', 0 ≤ x.n := fun x hx => HPOS.out x (List.mem_of_mem_drop (List.mem_of_mem_drop (hl' ▸ hx)))
        obtain ⟨R2, hR2⟩ : ∃ R2, loadRecs q2.n (l'.length / 5) l' q1.n [] = R2 := ⟨_, rfl⟩
        have hgo2 := HGO.out
        rw [HRR.out] at hgo2
        simp only at hgo2
        rw [hR2] at hgo2
        have HG2 := Lib.hid hgo2
        have hrel : RecRel w' a bm (.slice none 0 0) ⟨q0.s, q1.n, q2.n, m, []⟩ R2 l' A' c' (l'.length / 5) q1.n [] w3 := ⟨hC6.out, hc', hb3, HT3.out, hR2, by omega, hpos', by have := HLD.out; have := HJ.out; simp; omega, p1, by omega⟩
        have HREL := Lib.hid hrel
        clear hl' hlj hpos' hR2 hgo2 hrel
        go_wp2
        refine load_loop2 w' w3 a bm (.slice none 0 0) ⟨q0.s, q1.n, q2.n, m, []⟩ R2 l' A' c' (l'.length / 5) q1.n [] p2 b2 HREL.out _ _ _ _ _ _ _ _ _ _ _ _ _ _ _ _ _ _ _ _ _ _ _ _ _ _ _ _ _ _ _ _ _ _ _ _ _ _ _ _ _ _ _ _ _ _ _ _ _ _ _ _ _ _ _ _ _ _ _ _ _ _ _ _ _ _ _ _ _ _ _ _ _ _ _ _ _ _ _ _ _ _ _ _ _ _ _ _ _ _ _ _ _ _ _ _ _ _ _ _ _ _ _ _ _ _ _ _ _ _ _ _ _ _ _ _ _ _ _ _ _ _ _ _ _ _ _ _ _ _ _ _ _ _ _ _ _ _ _ _ _ _ _ _ _ _ _ _ _ _ _ _ _ _ _ _ _ _ _ _ _ _ _ _ _ _ _ _ _ _ _ _ _ _ _ _ _ _ _ _ _ _ _ _ _ _ _ _ _ _ _ _ _ _ _ ?_ ?_
        · intro hn w4 u0 u1 u4 u5 u6 u7 u8 u9 u10 u11 u12 u13 u14 u15 u16 u17 u18 u19 u20 u21 u22 u23 u24 u25 u26 u27 u28 u29 u30 u31 u32 u33 u34 u35 u36 u37 u38 u39 u40 u41 u42 u43 u44 u45 u46 u47 u48 u49 u50 u51 u52 u53 u54 u55 u56 u57 u58 u59 u60 u61 u62 u63 u64 u65 u66 u67 u68 u69 u70 u71 u72 u73 u74 u75 u76 u77 u78 u79 u80 u81 u82 u83 u84 u85 u86 u87 u88 u89 u90 u91 u92 u93 u94 u95 u96 u97 u98 u99 u100 u101 u102 u103 u104 u105 u106 u107 u108 u109 u110 u111 u112 u113 u114 u115 u116 u117 u118 u119 u120 u121 u122 u123 u124 u125 u126 u127 u128 u129 u130 u131 u132 u133 u134 u135 u136 u137 u138 u139 u140 u141 u142 u143 u144 u145 u146 u147 u148 u149 u150 u151 u152 u153 u154 u155 u156 u157 u158 u159 u160 u161 u162 u163 u164 u165 u166 u167 u168 u169 u170 u171 u172 u173 u174 u175 u176 u177 u178 u179 u180 u181 u182 u183 u184 u185 u186 u187 u188 u189 u190 u191 u192 u193 u194 u195 u196 hb4
          change bodyPost Tryd.prog Tryd.f16 (LoadPost w (loadFrom n l)) .ret _ _
          go_ret2
          exact HP.out none _ _ (by rw [HG2.out, hn]; rfl) ⟨below_step HB1.out hb4, .inl ⟨rfl, rfl⟩⟩
        · intro out' rv' w4 u0 u1 u2 u3 u4 u5 u6 u8 u9 u10 u11 u12 u13 u14 u15 u16 u17 u18 u19 u20 u21 u22 u23 u24 u25 u26 u27 u28 u29 u30 u31 u32 u33 u34 u35 u36 u37 u38 u39 u40 u41 u42 u43 u44 u45 u46 u47 u48 u49 u50 u51 u52 u53 u54 u55 u56 u57 u58 u59 u60 u61 u62 u63 u64 u65 u66 u67 u68 u69 u70 u71 u72 u73 u74 u75 u76 u77 u78 u79 u80 u81 u82 u83 u84 u85 u86 u87 u88 u89 u90 u91 u92 u93 u94 u95 u96 u97 u98 u99 u100 u101 u102 u103 u104 u105 u106 u107 u108 u109 u110 u111 u112 u113 u114 u115 u116 u117 u118 u119 u120 u121 u122 u123 u124 u125 u126 u127 u128 u129 u130 u131 u132 u133 u134 u135 u136 u137 u138 u139 u140 u141 u142 u143 u144 u145 u146 u147 u148 u149 u150 u151 u152 u153 u154 u155 u156 u157 u158 u159 u160 u161 u162 u163 u164 u165 u166 u167 u168 u169 u170 u171 u172 u173 u174 u175 u176 u177 u178 u179 u180 u181 u182 u183 u184 u185 u186 u187 u188 u189 u190 u191 u192 u193 u194 u195 u196 hR3 hb4 hT4
          have HT4 := Lib.hid hT4
          clear hT4
          go_wp2
          go_ret2
          exact HP.out (some ⟨q0.s, q1.n, q2.n, m, out'⟩) _ _ (by rw [HG2.out, hR3]; rfl) ⟨below_step HB1.out hb4, .inr ⟨_, a, rfl, rfl, (HT4.out.mono (fun i hi => Nat.le_trans HB1.out.size hi)).here⟩⟩
  · have hnone := hLF.trans (if_pos hbd.symm)
    go_wp2
    go_ret2
    exact HP.out _ _ _ hnone ⟨below_step HB.out hb', .inl ⟨rfl, rfl⟩⟩

theorem load_any (w : World) (s : List UInt8) (hS : SizesAt w) (hs : s.length ≤ 1000000000) : ∃ R, Loads s R ∧ Calls Tryd.prog 16 #[.string (strB s)] w (LoadPost w R) := by
  rcases first_good s with ⟨n, h1, h2, h3⟩ | h
  · exact ⟨_, .inl ⟨n, h1, h2, h3, rfl⟩, load_some w s n hS hs h1 h2 h3⟩
  · exact ⟨none, .inr ⟨h, rfl⟩, load_none w s hS hs h⟩
end Go.Proofs.YtdbnanniboiooaaDoor
