/-
  topic.text, topic.long: items.
  topic.Dump: the head.
  topic.Dump: several items behind others.
  topic.Dump: a producer's items.
  topic.Dump: a record's items.
-/
import Derived.Test.YtdbnanniboiooaaDoorZLoads
import Derived.Deep.RegionHeld3
import Derived.Maps.AppendAt
set_option linter.unusedVariables false
set_option linter.unusedSimpArgs false
namespace Go.Proofs.YtdbnanniboiooaaDoor
open Go.RowKit Go.Proofs.Carillon Go.Proofs.YtdbnanniboiooaaDoorW.PrintWords Go.Lib Go.Shelf
theorem text_item (s : ByteArray) (w : World) : Calls Tryd.prog 39 #[.string s] w fun e w' => e = .returned (.agg #[.int .i64 4, .int .u64 0, .string s]) ∧ Below w.heap.size w w' := by
  have hb : ∀ o, Below w.heap.size w (w.alloc o) := fun o => below_alloc (Below.refl _ _) o
  have HB := Lib.hid hb
  clear hb
  go_enter Tryd.func39, Tryd.ntmps39
  go_wp2
  refine bodyPost_ret (results_cell_row (P := Tryd.prog) rfl _ _ w.heap.size 89 _ (0, 0) _ rfl (heap_alloc_new w _) Tryd.underlying89 rfl (by kernel_rfl)) rfl ?_
  exact ⟨rfl, HB.out _⟩
theorem long_item (n : Int) (w : World) (h0 : 0 ≤ n) (h1 : n ≤ 9223372036854775807) : Calls Tryd.prog 40 #[.int .i64 n] w fun e w' => e = .returned (.agg #[.int .i64 3, .int .u64 n, .string ⟨#[]⟩]) ∧ Below w.heap.size w w' := by
  have hb : ∀ o, Below w.heap.size w (w.alloc o) := fun o => below_alloc (Below.refl _ _) o
  have HB := Lib.hid hb
  clear hb
  go_enter Tryd.func40, Tryd.ntmps40
  go_wp2
  refine bodyPost_ret (results_cell_row (P := Tryd.prog) rfl _ _ w.heap.size 89 _ (0, 0) _ rfl (heap_alloc_new w _) Tryd.underlying89 rfl (by kernel_rfl)) rfl ?_
  exact ⟨rfl, HB.out _⟩
end Go.Proofs.YtdbnanniboiooaaDoor
namespace Go.Proofs.YtdbnanniboiooaaDoor
open Go.RowKit Go.Proofs.Carillon Go.Proofs.YtdbnanniboiooaaDoorW.PrintWords Go.Lib Go.Shelf
theorem reps_items (l : List Itm) : ∀ k, k ≤ l.length → Reps (fun (x : Itm) cs => cs = Itm.cells x) 3 (l.take k) ((l.take k).flatMap Itm.cells) := by
  intro k
  induction k with
  | zero => intro _; rw [List.take_zero]; exact Reps.none _ _
  | succ k ih =>
    intro hk
    have h1 := ih (by omega)
    have h2 := Reps.snoc h1 (show Itm.cells (l[k]'(by omega)) = Itm.cells (l[k]'(by omega)) from rfl) rfl
    rw [List.take_succ_eq_append_getElem (by omega), List.flatMap_append]
    simpa using h2
theorem items_lit (W : World) (l : List Itm) (hl : l.length ≤ 1000000) : ItemsAt (W.alloc (.cells (l.flatMap Itm.cells).toArray 89)) (fun k => W.heap.size ≤ k) (.slice (some ⟨W.heap.size, 0, none⟩) l.length l.length) l := by
  have hr := reps_items l l.length (Nat.le_refl _)
  rw [List.take_length] at hr
  refine ⟨fun k hk => ?_, l.flatMap Itm.cells, ?_, hr⟩
  · have : W.heap.size = k := by simpa [Value.ownBlock] using hk
    omega
  · have h2 := World.ownsRow_lit (base := 0) (e := 89) (size := 3) W (l.flatMap Itm.cells).toArray l.length (Nat.zero_le _) (by unfold maxLen; omega) (by simpa using hr.1)
    have h3 : (W.alloc (.cells (l.flatMap Itm.cells).toArray 89)).ownsRow 0 89 3 (.slice (some ⟨W.heap.size, 0, none⟩) l.length l.length) l.length (l.flatMap Itm.cells) := by simpa using h2
    exact h3
def D1Wp (Q : Exit → Act → World → Prop) (a : Act) (w : World) : Prop := Code.wp Tryd.prog (seqA (seqB (Tryd.f21.body.getD .skip))) Q a w

set_option maxRecDepth 100000 in
set_option maxHeartbeats 4000000 in
theorem dump_r1 (w : World) (ok : Nat → Prop) (a bm : Nat) (rv : Value) (T : Tp) (hT : TopicAt w ok a bm rv T) (h0 : 0 ≤ T.low) (h1 : T.low ≤ 9007199254740991) (h2 : 0 ≤ T.fin) (h3 : T.fin ≤ 9007199254740991) (hp : T.prods.length ≤ 1000000) (Q : Exit → Act → World → Prop) (u1 u2 u3 u4 u5 u6 u7 u8 u9 u10 u11 u12 u13 u14 u15 u16 u17 u18 u19 u20 u21 u22 u23 u24 u25 u26 u27 u28 u29 u30 u31 u32 u33 u34 u35 u36 u37 u38 u39 u40 u41 u42 u43 u44 u45 u46 u47 u48 u49 u50 u51 u52 u53 u54 u55 u56 u57 u58 u59 u60 u61 u62 u63 u64 u65 u66 u67 u68 u69 u70 u71 u72 u73 u74 u75 u76 u77 u78 u79 u80 u81 u82 u83 u84 u85 u86 u87 u88 u89 u90 u91 u92 u93 u94 u95 u96 u97 u98 : Value)
    (hQ : ∀ w' v (u11 u12 u13 u14 u15 u16 u17 u18 u19 u20 u21 u22 u23 u24 u25 u26 u27 u28 u29 u30 u31 u32 : Value), ItemsAt w' (fun k => w.heap.size ≤ k) v [⟨4, 0, T.name⟩, ⟨3, T.low, ⟨#[]⟩⟩, ⟨3, T.fin, ⟨#[]⟩⟩, ⟨3, (T.prods.length : Nat), ⟨#[]⟩⟩] → Below w.heap.size w w' → Q .normal ⟨#[.pointer (some ⟨a, 0, none⟩), u1, u2, v, u4, u5, u6, u7, u8, u9, u10, u11, u12, u13, u14, u15, u16, u17, u18, u19, u20, u21, u22, u23, u24, u25, u26, u27, u28, u29, u30, u31, u32, u33, u34, u35, u36, u37, u38, u39, u40, u41, u42, u43, u44, u45, u46, u47, u48, u49, u50, u51, u52, u53, u54, u55, u56, u57, u58, u59, u60, u61, u62, u63, u64, u65, u66, u67, u68, u69, u70, u71, u72, u73, u74, u75, u76, u77, u78, u79, u80, u81, u82, u83, u84, u85, u86, u87, u88, u89, u90, u91, u92, u93, u94, u95, u96, u97, u98], []⟩ w') :
    D1Wp Q ⟨#[.pointer (some ⟨a, 0, none⟩), u1, u2, u3, u4, u5, u6, u7, u8, u9, u10, u11, u12, u13, u14, u15, u16, u17, u18, u19, u20, u21, u22, u23, u24, u25, u26, u27, u28, u29, u30, u31, u32, u33, u34, u35, u36, u37, u38, u39, u40, u41, u42, u43, u44, u45, u46, u47, u48, u49, u50, u51, u52, u53, u54, u55, u56, u57, u58, u59, u60, u61, u62, u63, u64, u65, u66, u67, u68, u69, u70, u71, u72, u73, u74, u75, u76, u77, u78, u79, u80, u81, u82, u83, u84, u85, u86, u87, u88, u89, u90, u91, u92, u93, u94, u95, u96, u97, u98], []⟩ w := by
  have c0 := hT.c0
  have c1 := hT.c1
  have c2 := hT.c2
  have c3 := hT.c3
  have hlen : ∀ W, Below w.heap.size w W → ∀ ty, (Builtin.len_ #[80] ty #[.map (some bm)]).run Tryd.prog W = .ok (.int .i64 (T.prods.length : Nat)) W := fun W hb ty => by
    have := (hT.below hb).map.len (t := 80) Tryd.underlying80 ty
    rwa [withNames_length] at this
  have HQ := Lib.hid hQ
  clear hQ
  obtain ⟨nm, lo, fi, ps, rs⟩ := T
  simp only at c0 c1 c2 c3 h0 h1 h2 h3 hp hlen
  have hX := fun W => text_item nm W
  have hL1 := fun W => long_item lo W h0 (by omega)
  have hL2 := fun W => long_item fi W h2 (by omega)
  have hL3 := fun W => long_item (ps.length : Nat) W (by omega) (by omega)
  have HX := Lib.hid hX
  have HL1 := Lib.hid hL1
  have HL2 := Lib.hid hL2
  have HL3 := Lib.hid hL3
  have HT := Lib.hid hT
  have HLEN := Lib.hid hlen
  clear hX hL1 hL2 hL3 hT hlen
  have hbw : Below w.heap.size w w.drew := below_drew (Below.refl _ _)
  have hlx := HLEN.out w.drew hbw
  have kk : w.drew.cell? ⟨a, 0, none⟩ = some (.string nm) ∧ w.drew.cell? ⟨a, 1, none⟩ = some (.int .i64 lo) ∧ w.drew.cell? ⟨a, 2, none⟩ = some (.int .i64 fi) ∧ w.drew.cell? ⟨a, 3, none⟩ = some (.map (some bm)) ∧ (∀ ty, (Builtin.len_ #[80] ty #[.map (some bm)]).run Tryd.prog w.drew = .ok (.int .i64 (ps.length : Nat)) w.drew) := ⟨c0, c1, c2, c3, hlx⟩
  clear c0 c1 c2 c3
  unfold D1Wp Tryd.f21
  simp only [seqA, seqB, Option.getD]
  refine wp_norm ?_
  go_region_held3 (fun w' => w'.cell? ⟨a, 0, none⟩ = some (.string nm) ∧ w'.cell? ⟨a, 1, none⟩ = some (.int .i64 lo) ∧ w'.cell? ⟨a, 2, none⟩ = some (.int .i64 fi) ∧ w'.cell? ⟨a, 3, none⟩ = some (.map (some bm)) ∧ (∀ ty, (Builtin.len_ #[80] ty #[.map (some bm)]).run Tryd.prog w' = .ok (.int .i64 (ps.length : Nat)) w')) (first | with_reducible exact kk | exact ⟨pw_cell_below (below_alloc (Below.refl _ _) _) kk.1, pw_cell_below (below_alloc (Below.refl _ _) _) kk.2.1, pw_cell_below (below_alloc (Below.refl _ _) _) kk.2.2.1, pw_cell_below (below_alloc (Below.refl _ _) _) kk.2.2.2.1, HLEN.out _ (below_alloc hbw _)⟩ | go_keep) (first | (go_at_call 39; refine (HX.out _).mono ?_; rintro e w1 ⟨rfl, hb⟩; have hbw := below_step hbw hb; have hlx := HLEN.out _ hbw; have kk := (⟨pw_cell_below hb kk.1, pw_cell_below hb kk.2.1, pw_cell_below hb kk.2.2.1, pw_cell_below hb kk.2.2.2.1, hlx⟩ : _ ∧ _ ∧ _ ∧ _ ∧ _)) | (go_at_call 40; (first | refine (HL1.out _).mono ?_ | refine (HL2.out _).mono ?_ | refine (HL3.out _).mono ?_); rintro e w1 ⟨rfl, hb⟩; have hbw := below_step hbw hb; have hlx := HLEN.out _ hbw; have kk := (⟨pw_cell_below hb kk.1, pw_cell_below hb kk.2.1, pw_cell_below hb kk.2.2.1, pw_cell_below hb kk.2.2.2.1, hlx⟩ : _ ∧ _ ∧ _ ∧ _ ∧ _)))
  exact HQ.out _ _ _ _ _ _ _ _ _ _ _ _ _ _ _ _ _ _ _ _ _ _ _ _ (Kd.R_mono (items_lit w1 [⟨4, 0, nm⟩, ⟨3, lo, ⟨#[]⟩⟩, ⟨3, fi, ⟨#[]⟩⟩, ⟨3, (ps.length : Nat), ⟨#[]⟩⟩] (by simp)) (fun k hk => Nat.le_trans hbw.size hk)) (below_alloc hbw _)
end Go.Proofs.YtdbnanniboiooaaDoor
namespace Go.Proofs.YtdbnanniboiooaaDoor
open Go.RowKit Go.Proofs.Carillon Go.Proofs.YtdbnanniboiooaaDoorW.PrintWords Go.Lib Go.Shelf
theorem cells_one (l : List Itm) : ∀ u ∈ l.flatMap Itm.cells, u.oneCell' = true := by
  intro u hu
  obtain ⟨x, _, h⟩ := List.mem_flatMap.1 hu
  simp only [Itm.cells, List.mem_cons, List.not_mem_nil, or_false] at h
  rcases h with rfl | rfl | rfl <;> rfl
/-- 'append(v, a, b, ..)': the run at a literal's row. -/
theorem items_append (W : World) (ok : Nat → Prop) (v : Value) (xs ys : List Itm) (hv : ItemsAt W ok v xs) (hfresh : ∀ k, W.heap.size ≤ k → ok k) (hx : xs.length ≤ 1000000) (hy : ys.length ≤ 1000000) :
    ∃ v1 w1, (Builtin.append_ #[84, 84] 84 #[v, .slice (some ⟨W.heap.size, 0, none⟩) ys.length ys.length]).run Tryd.prog (W.alloc (.cells (ys.flatMap Itm.cells).toArray 89)) = .ok v1 w1 ∧
      ItemsAt w1 ok v1 (xs ++ ys) ∧ W.grownBy w1 v.ownBlock := by
  obtain ⟨i0, hi, hzz⟩ := Option.map_eq_some_iff.1 infoItem
  simp only [Prod.mk.injEq] at hzz
  obtain ⟨hz0, hz1, hz2⟩ := hzz
  obtain ⟨hok, inner, hown, hr⟩ := hv
  have hry := reps_items ys ys.length (Nat.le_refl _)
  rw [List.take_length] at hry
  have hown2 : (W.alloc (.cells (ys.flatMap Itm.cells).toArray 89)).ownsRow 0 89 3 v xs.length inner := hown.alloc _
  obtain ⟨v1, w1, h1, h2, h3, _, h5⟩ := run_append_own_at (P := Tryd.prog) (W.alloc (.cells (ys.flatMap Itm.cells).toArray 89)) 0 84 84 89 i0 _ 3 32 Tryd.underlying84 hi hz0 hz1 hz2 rfl (by decide) v xs.length inner hown2 ⟨W.heap.size, 0, none⟩ ys.length ys.length (ys.flatMap Itm.cells) hry.1
    (by simpa using World.news_of_block (cs := (ys.flatMap Itm.cells).toArray) (t := 89) (fr := (0, 0)) (heap_alloc_new W (.cells (ys.flatMap Itm.cells).toArray 89))) (cells_one ys) (by unfold maxLen; omega) (by omega) (Nat.zero_le _)
  have hsz : (W.alloc (.cells (ys.flatMap Itm.cells).toArray 89)).heap.size = W.heap.size + 1 := by simp
  refine ⟨v1, w1, h1, ⟨fun k hk => ?_, inner ++ ys.flatMap Itm.cells, ?_, ?_⟩, World.grownBy.trans (World.grownBy_alloc W _ _) h3⟩
  · rcases h5 with h5 | h5
    · exact hok k (h5 ▸ hk)
    · rw [h5] at hk
      injection hk with hk
      exact hfresh k (by omega)
  · rw [List.length_append]; exact h2
  · exact Kd.reps_append (hr.imp_ (fun _ _ h => h)) hry
end Go.Proofs.YtdbnanniboiooaaDoor
namespace Go.Proofs.YtdbnanniboiooaaDoor
open Go.RowKit Go.Proofs.Carillon Go.Proofs.YtdbnanniboiooaaDoorW.PrintWords Go.Lib Go.Shelf
def D6Wp (Q : Exit → Act → World → Prop) (a : Act) (w : World) : Prop := Code.wp Tryd.prog (seqB (seqB (blockB (seqA (seqB (seqB (loopB (blockB (seqB (seqA (seqB (seqB (Tryd.f21.body.getD .skip))))))))))))) Q a w
theorem grown_below {w w1 w2 : World} {v : Value} (hb : Below w.heap.size w w1) (hg : w1.grownBy w2 v.ownBlock) : Turned (fun i => v.ownBlock = some i) w w2 :=
  (Turned.of_below hb).trans (Turned.of_grown (ok := fun i => v.ownBlock = some i) hg (fun k hk => hk)) (fun _ h => .inl h)

set_option maxRecDepth 100000 in
set_option maxHeartbeats 4000000 in
theorem dump_r6 (w : World) (ok : Nat → Prop) (B : Nat) (v : Value) (its : List Itm) (nm : ByteArray) (sq of : Int) (hB : w.heap[B]? = some (.cells #[.int .i64 sq, .int .i64 of, .string nm] 93 (0, 0))) (hv : ItemsAt w ok v its) (hfresh : ∀ k, w.heap.size ≤ k → ok k) (hl : its.length ≤ 100000) (h0 : 0 ≤ sq) (h1 : sq ≤ 9007199254740991) (h2 : 0 ≤ of) (h3 : of ≤ 9007199254740991) (Q : Exit → Act → World → Prop) (u0 u1 u2 u4 u5 u7 u8 u9 u10 u11 u12 u13 u14 u15 u16 u17 u18 u19 u20 u21 u22 u23 u24 u25 u26 u27 u28 u29 u30 u31 u32 u33 u34 u35 u36 u37 u38 u39 u40 u41 u42 u43 u44 u45 u46 u47 u48 u49 u50 u51 u52 u53 u54 u55 u56 u57 u58 u59 u60 u61 u62 u63 u64 u65 u66 u67 u68 u69 u70 u71 u72 u73 u74 u75 u76 u77 u78 u79 u80 u81 u82 u83 u84 u85 u86 u87 u88 u89 u90 u91 u92 u93 u94 u95 u96 u97 u98 : Value)
    (hQ : ∀ w' v' (u50 u51 u52 u53 u54 u55 u56 u57 u58 u59 u60 u61 u62 u63 : Value), ItemsAt w' ok v' (its ++ [⟨4, 0, nm⟩, ⟨3, sq, ⟨#[]⟩⟩, ⟨3, of, ⟨#[]⟩⟩]) → Turned (fun i => v.ownBlock = some i) w w' → Q .normal ⟨#[u0, u1, u2, v', u4, u5, .pointer (some ⟨B, 0, none⟩), u7, u8, u9, u10, u11, u12, u13, u14, u15, u16, u17, u18, u19, u20, u21, u22, u23, u24, u25, u26, u27, u28, u29, u30, u31, u32, u33, u34, u35, u36, u37, u38, u39, u40, u41, u42, u43, u44, u45, u46, u47, u48, u49, u50, u51, u52, u53, u54, u55, u56, u57, u58, u59, u60, u61, u62, u63, u64, u65, u66, u67, u68, u69, u70, u71, u72, u73, u74, u75, u76, u77, u78, u79, u80, u81, u82, u83, u84, u85, u86, u87, u88, u89, u90, u91, u92, u93, u94, u95, u96, u97, u98], []⟩ w') :
    D6Wp Q ⟨#[u0, u1, u2, v, u4, u5, .pointer (some ⟨B, 0, none⟩), u7, u8, u9, u10, u11, u12, u13, u14, u15, u16, u17, u18, u19, u20, u21, u22, u23, u24, u25, u26, u27, u28, u29, u30, u31, u32, u33, u34, u35, u36, u37, u38, u39, u40, u41, u42, u43, u44, u45, u46, u47, u48, u49, u50, u51, u52, u53, u54, u55, u56, u57, u58, u59, u60, u61, u62, u63, u64, u65, u66, u67, u68, u69, u70, u71, u72, u73, u74, u75, u76, u77, u78, u79, u80, u81, u82, u83, u84, u85, u86, u87, u88, u89, u90, u91, u92, u93, u94, u95, u96, u97, u98], []⟩ w := by
  have hX := fun W => text_item nm W
  have hL1 := fun W => long_item sq W h0 (by omega)
  have hL2 := fun W => long_item of W h2 (by omega)
  have hap : ∀ W, Below w.heap.size w W → ∃ v1 w1, (Builtin.append_ #[84, 84] 84 #[v, .slice (some ⟨W.heap.size, 0, none⟩) 3 3]).run Tryd.prog (W.alloc (.cells #[.int .i64 4, .int .u64 0, .string nm, .int .i64 3, .int .u64 sq, .string ⟨#[]⟩, .int .i64 3, .int .u64 of, .string ⟨#[]⟩] 89)) = .ok v1 w1 ∧
      ItemsAt w1 ok v1 (its ++ [⟨4, 0, nm⟩, ⟨3, sq, ⟨#[]⟩⟩, ⟨3, of, ⟨#[]⟩⟩]) ∧ W.grownBy w1 v.ownBlock ∧ (w1.cell? ⟨B, 2, none⟩ = some (.string nm) ∧ w1.cell? ⟨B, 0, none⟩ = some (.int .i64 sq) ∧ w1.cell? ⟨B, 1, none⟩ = some (.int .i64 of)) := fun W hb => by
    have hB1 := below_at hb hB
    have hv1 : ItemsAt W ok v its := Kd.R_below hv hb
    obtain ⟨v1, w1, e1, e2, e3⟩ := items_append W ok v its [⟨4, 0, nm⟩, ⟨3, sq, ⟨#[]⟩⟩, ⟨3, of, ⟨#[]⟩⟩] hv1 (fun k hk => hfresh k (Nat.le_trans hb.size hk)) (by omega) (by simp)
    have hB2 := (e3.block B (blk_lt hB1) (Kd.R_ne hv1 hB1 (by decide))).trans hB1
    exact ⟨v1, w1, e1, e2, e3, cell_blk (j := 2) hB2 rfl, cell_blk (j := 0) hB2 rfl, cell_blk (j := 1) hB2 rfl⟩
  have c0 := cell_blk (j := 0) hB rfl
  have c1 := cell_blk (j := 1) hB rfl
  have c2 := cell_blk (j := 2) hB rfl
  have HX := Lib.hid hX
  have HL1 := Lib.hid hL1
  have HL2 := Lib.hid hL2
  have HAP := Lib.hid hap
  have HQ := Lib.hid hQ
  clear hX hL1 hL2 hap hQ hB hv hfresh
  have hbw : Below w.heap.size w w.drew := below_drew (Below.refl _ _)
  have kk : w.drew.cell? ⟨B, 2, none⟩ = some (.string nm) ∧ w.drew.cell? ⟨B, 0, none⟩ = some (.int .i64 sq) ∧ w.drew.cell? ⟨B, 1, none⟩ = some (.int .i64 of) := ⟨c2, c0, c1⟩
  have kk2 := kk
  clear c0 c1 c2
  unfold D6Wp Tryd.f21
  simp only [seqA, seqB, loopB, blockB, Option.getD]
  refine wp_norm ?_
  go_region_held3 (fun w' => w'.cell? ⟨B, 2, none⟩ = some (.string nm) ∧ w'.cell? ⟨B, 0, none⟩ = some (.int .i64 sq) ∧ w'.cell? ⟨B, 1, none⟩ = some (.int .i64 of)) (first | exact kk2 | exact kk | go_keep) (first | (refine step_append_run (by rfl) (.tmp 50) (.tmp 62) 84 84 84 rfl rfl v (.slice (some ⟨w1.heap.size, 0, none⟩) 3 3) v2 rfl rfl hrun ?_) | (go_at_call 39; refine (HX.out _).mono ?_; rintro e w1 ⟨rfl, hb⟩; have kk := (⟨pw_cell_below hb kk.1, pw_cell_below hb kk.2.1, pw_cell_below hb kk.2.2⟩ : _ ∧ _ ∧ _); have hbw := below_step hbw hb) | (go_at_call 40; (first | refine (HL1.out _).mono ?_ | refine (HL2.out _).mono ?_); rintro e w1 ⟨rfl, hb⟩; have kk := (⟨pw_cell_below hb kk.1, pw_cell_below hb kk.2.1, pw_cell_below hb kk.2.2⟩ : _ ∧ _ ∧ _); have hbw := below_step hbw hb; obtain ⟨v2, w2, hrun, hv2, hg2, kk2⟩ := HAP.out w1 hbw) | (refine step_append_run (by rfl) (.tmp 50) (.tmp 62) 84 84 84 rfl rfl v (.slice (some ⟨w1.heap.size, 0, none⟩) 3 3) v2 (by with_reducible rfl) (by with_reducible rfl) hrun ?_))
  exact HQ.out w2 v2 _ _ _ _ _ _ _ _ _ _ _ _ _ _ hv2 (grown_below hbw hg2)
end Go.Proofs.YtdbnanniboiooaaDoor
namespace Go.Proofs.YtdbnanniboiooaaDoor
open Go.RowKit Go.Proofs.Carillon Go.Proofs.YtdbnanniboiooaaDoorW.PrintWords Go.Lib Go.Shelf
def D11Wp (Q : Exit → Act → World → Prop) (a : Act) (w : World) : Prop := Code.wp Tryd.prog (seqB (blockB (seqA (seqB (seqB (loopB (blockB (seqB (seqA (seqB (seqB (seqB (Tryd.f21.body.getD .skip))))))))))))) Q a w
def recItems (r : Rec) : List Itm := [⟨3, r.off, ⟨#[]⟩⟩, ⟨4, 0, r.prod⟩, ⟨3, r.seq, ⟨#[]⟩⟩, ⟨4, 0, r.key⟩, ⟨4, 0, r.val⟩]

set_option maxRecDepth 100000 in
set_option maxHeartbeats 4000000 in
theorem dump_r11 (w : World) (ok : Nat → Prop) (B : Nat) (v : Value) (its : List Itm) (r : Rec) (hB : w.heap[B]? = some (.cells #[.int .i64 r.off, .string r.prod, .int .i64 r.seq, .string r.key, .string r.val] 41 (0, 0))) (hv : ItemsAt w ok v its) (hfresh : ∀ k, w.heap.size ≤ k → ok k) (hl : its.length ≤ 100000) (h0 : 0 ≤ r.off) (h1 : r.off ≤ 9007199254740991) (h2 : 0 ≤ r.seq) (h3 : r.seq ≤ 9007199254740991) (Q : Exit → Act → World → Prop) (u0 u1 u2 u4 u5 u6 u7 u9 u10 u11 u12 u13 u14 u15 u16 u17 u18 u19 u20 u21 u22 u23 u24 u25 u26 u27 u28 u29 u30 u31 u32 u33 u34 u35 u36 u37 u38 u39 u40 u41 u42 u43 u44 u45 u46 u47 u48 u49 u50 u51 u52 u53 u54 u55 u56 u57 u58 u59 u60 u61 u62 u63 u64 u65 u66 u67 u68 u69 u70 u71 u72 u73 u74 u75 u76 u77 u78 u79 u80 u81 u82 u83 u84 u85 u86 u87 u88 u89 u90 u91 u92 u93 u94 u95 u96 u97 u98 : Value)
    (hQ : ∀ w' v' (u74 u75 u76 u77 u78 u79 u80 u81 u82 u83 u84 u85 u86 u87 u88 u89 u90 u91 : Value), ItemsAt w' ok v' (its ++ recItems r) → Turned (fun i => v.ownBlock = some i) w w' → Q .normal ⟨#[u0, u1, u2, v', u4, u5, u6, u7, .pointer (some ⟨B, 0, none⟩), u9, u10, u11, u12, u13, u14, u15, u16, u17, u18, u19, u20, u21, u22, u23, u24, u25, u26, u27, u28, u29, u30, u31, u32, u33, u34, u35, u36, u37, u38, u39, u40, u41, u42, u43, u44, u45, u46, u47, u48, u49, u50, u51, u52, u53, u54, u55, u56, u57, u58, u59, u60, u61, u62, u63, u64, u65, u66, u67, u68, u69, u70, u71, u72, u73, u74, u75, u76, u77, u78, u79, u80, u81, u82, u83, u84, u85, u86, u87, u88, u89, u90, u91, u92, u93, u94, u95, u96, u97, u98], []⟩ w') :
    D11Wp Q ⟨#[u0, u1, u2, v, u4, u5, u6, u7, .pointer (some ⟨B, 0, none⟩), u9, u10, u11, u12, u13, u14, u15, u16, u17, u18, u19, u20, u21, u22, u23, u24, u25, u26, u27, u28, u29, u30, u31, u32, u33, u34, u35, u36, u37, u38, u39, u40, u41, u42, u43, u44, u45, u46, u47, u48, u49, u50, u51, u52, u53, u54, u55, u56, u57, u58, u59, u60, u61, u62, u63, u64, u65, u66, u67, u68, u69, u70, u71, u72, u73, u74, u75, u76, u77, u78, u79, u80, u81, u82, u83, u84, u85, u86, u87, u88, u89, u90, u91, u92, u93, u94, u95, u96, u97, u98], []⟩ w := by
  obtain ⟨of, pr, sq, ky, va⟩ := r
  simp only at hB h0 h1 h2 h3
  have hX1 := fun W => text_item pr W
  have hX2 := fun W => text_item ky W
  have hX3 := fun W => text_item va W
  have hL1 := fun W => long_item of W h0 (by omega)
  have hL2 := fun W => long_item sq W h2 (by omega)
  have hap : ∀ W, Below w.heap.size w W → ∃ v1 w1, (Builtin.append_ #[84, 84] 84 #[v, .slice (some ⟨W.heap.size, 0, none⟩) 5 5]).run Tryd.prog (W.alloc (.cells #[.int .i64 3, .int .u64 of, .string ⟨#[]⟩, .int .i64 4, .int .u64 0, .string pr, .int .i64 3, .int .u64 sq, .string ⟨#[]⟩, .int .i64 4, .int .u64 0, .string ky, .int .i64 4, .int .u64 0, .string va] 89)) = .ok v1 w1 ∧
      ItemsAt w1 ok v1 (its ++ recItems ⟨of, pr, sq, ky, va⟩) ∧ W.grownBy w1 v.ownBlock ∧ (w1.cell? ⟨B, 0, none⟩ = some (.int .i64 of) ∧ w1.cell? ⟨B, 1, none⟩ = some (.string pr) ∧ w1.cell? ⟨B, 2, none⟩ = some (.int .i64 sq) ∧ w1.cell? ⟨B, 3, none⟩ = some (.string ky) ∧ w1.cell? ⟨B, 4, none⟩ = some (.string va)) := fun W hb => by
    have hB1 := below_at hb hB
    have hv1 : ItemsAt W ok v its := Kd.R_below hv hb
    obtain ⟨v1, w1, e1, e2, e3⟩ := items_append W ok v its (recItems ⟨of, pr, sq, ky, va⟩) hv1 (fun k hk => hfresh k (Nat.le_trans hb.size hk)) (by omega) (by simp [recItems])
    have hB2 := (e3.block B (blk_lt hB1) (Kd.R_ne hv1 hB1 (by decide))).trans hB1
    exact ⟨v1, w1, e1, e2, e3, cell_blk (j := 0) hB2 rfl, cell_blk (j := 1) hB2 rfl, cell_blk (j := 2) hB2 rfl, cell_blk (j := 3) hB2 rfl, cell_blk (j := 4) hB2 rfl⟩
  have c0 := cell_blk (j := 0) hB rfl
  have c1 := cell_blk (j := 1) hB rfl
  have c2 := cell_blk (j := 2) hB rfl
  have c3 := cell_blk (j := 3) hB rfl
  have c4 := cell_blk (j := 4) hB rfl
  have HX1 := Lib.hid hX1
  have HX2 := Lib.hid hX2
  have HX3 := Lib.hid hX3
  have HL1 := Lib.hid hL1
  have HL2 := Lib.hid hL2
  have HAP := Lib.hid hap
  have HQ := Lib.hid hQ
  clear hX1 hX2 hX3 hL1 hL2 hap hQ hB hv hfresh
  have hbw : Below w.heap.size w w.drew := below_drew (Below.refl _ _)
  have kk : w.drew.cell? ⟨B, 0, none⟩ = some (.int .i64 of) ∧ w.drew.cell? ⟨B, 1, none⟩ = some (.string pr) ∧ w.drew.cell? ⟨B, 2, none⟩ = some (.int .i64 sq) ∧ w.drew.cell? ⟨B, 3, none⟩ = some (.string ky) ∧ w.drew.cell? ⟨B, 4, none⟩ = some (.string va) := ⟨c0, c1, c2, c3, c4⟩
  have kk2 := kk
  clear c0 c1 c2 c3 c4
  unfold D11Wp Tryd.f21
  simp only [seqA, seqB, loopB, blockB, Option.getD]
  refine wp_norm ?_
  go_region_held3 (fun w' => w'.cell? ⟨B, 0, none⟩ = some (.int .i64 of) ∧ w'.cell? ⟨B, 1, none⟩ = some (.string pr) ∧ w'.cell? ⟨B, 2, none⟩ = some (.int .i64 sq) ∧ w'.cell? ⟨B, 3, none⟩ = some (.string ky) ∧ w'.cell? ⟨B, 4, none⟩ = some (.string va)) (first | with_reducible exact kk2 | with_reducible exact kk | exact ⟨pw_cell_below (below_alloc (Below.refl _ _) _) kk.1, pw_cell_below (below_alloc (Below.refl _ _) _) kk.2.1, pw_cell_below (below_alloc (Below.refl _ _) _) kk.2.2.1, pw_cell_below (below_alloc (Below.refl _ _) _) kk.2.2.2.1, pw_cell_below (below_alloc (Below.refl _ _) _) kk.2.2.2.2⟩ | go_keep) (first | (refine step_append_run (by rfl) (.tmp 74) (.tmp 90) 84 84 84 rfl rfl v (.slice (some ⟨w1.heap.size, 0, none⟩) 5 5) v2 rfl rfl hrun ?_) | (go_at_call 40; (first | (with_reducible refine (HL1.out _).mono ?_) | (with_reducible refine (HL2.out _).mono ?_)); rintro e w1 ⟨rfl, hb⟩; have kk := (⟨pw_cell_below hb kk.1, pw_cell_below hb kk.2.1, pw_cell_below hb kk.2.2.1, pw_cell_below hb kk.2.2.2.1, pw_cell_below hb kk.2.2.2.2⟩ : _ ∧ _ ∧ _ ∧ _ ∧ _); have hbw := below_step hbw hb) | (go_at_call 39; (first | ((with_reducible refine (HX1.out _).mono ?_); rintro e w1 ⟨rfl, hb⟩; have kk := (⟨pw_cell_below hb kk.1, pw_cell_below hb kk.2.1, pw_cell_below hb kk.2.2.1, pw_cell_below hb kk.2.2.2.1, pw_cell_below hb kk.2.2.2.2⟩ : _ ∧ _ ∧ _ ∧ _ ∧ _); have hbw := below_step hbw hb) | ((with_reducible refine (HX2.out _).mono ?_); rintro e w1 ⟨rfl, hb⟩; have kk := (⟨pw_cell_below hb kk.1, pw_cell_below hb kk.2.1, pw_cell_below hb kk.2.2.1, pw_cell_below hb kk.2.2.2.1, pw_cell_below hb kk.2.2.2.2⟩ : _ ∧ _ ∧ _ ∧ _ ∧ _); have hbw := below_step hbw hb) | ((with_reducible refine (HX3.out _).mono ?_); rintro e w1 ⟨rfl, hb⟩; have kk := (⟨pw_cell_below hb kk.1, pw_cell_below hb kk.2.1, pw_cell_below hb kk.2.2.1, pw_cell_below hb kk.2.2.2.1, pw_cell_below hb kk.2.2.2.2⟩ : _ ∧ _ ∧ _ ∧ _ ∧ _); have hbw := below_step hbw hb; obtain ⟨v2, w2, hrun, hv2, hg2, kk2⟩ := HAP.out w1 hbw))))
  exact HQ.out w2 v2 _ _ _ _ _ _ _ _ _ _ _ _ _ _ _ _ _ _ hv2 (grown_below hbw hg2)
end Go.Proofs.YtdbnanniboiooaaDoor
