/-
  codec.Decode: an item.
  codec.Decode: an item that is a number.
  codec.Decode: an item of any letter.
  codec.Decode: a round.
  codec.Decode by a shape with a star.
  codec.Decode by a shape with a star: the whole.
-/
import Derived.Test.YtdbnanniboiooaaDoorZRead
import Derived.ScopeJumps
set_option linter.unusedVariables false
set_option linter.unusedSimpArgs false
namespace Go.Proofs.Carillon
/-- How many bytes a letter's number has. -/
def sizeL (c : UInt8) : Nat := if c = 98 then 1 else if c = 119 then 4 else 8
/-- An item out of bytes by its letter: the item, what is left, the error. -/
def readItem (c : UInt8) (l : List UInt8) : Itm × List UInt8 × Int :=
  if c = 116 then (⟨4, 0, strB (textL l).1⟩, (textL l).2.1, (textL l).2.2) else
  if l.length < sizeL c then (⟨letterIx c + 1, 0, ⟨#[]⟩⟩, l, 2) else
  (⟨letterIx c + 1, valL (l.take (sizeL c)), ⟨#[]⟩⟩, l.drop (sizeL c), 0)
end Go.Proofs.Carillon
namespace Go.Proofs.YtdbnanniboiooaaDoor
open Go.RowKit Go.Proofs.Carillon Go.Proofs.YtdbnanniboiooaaDoorW.PrintWords Go.Lib Go.Shelf
def seqB : Code → Code | .seq _ b => b | c => c
def unscope : Code → Code | .scope c => c | c => c
/-- From the label on. -/
def PassWp (Q : Exit → Act → World → Prop) (a : Act) (w : World) : Prop := Code.wp Tryd.prog (seqB (seqB (seqB (seqB (seqB (seqB (unscope (seqB (Tryd.f56.body.getD .skip)))))))))  Q a w
/-- From the letter on. -/
def TailWp (Q : Exit → Act → World → Prop) (a : Act) (w : World) : Prop := Code.wp Tryd.prog (seqB (seqB (seqB (seqB (seqB (seqB (seqB (seqB (unscope (seqB (Tryd.f56.body.getD .skip))))))))))) Q a w

/-- Behind the reader's call, and the store into the item's box. -/
theorem tail_turned {w w1 : World} {b j : Nat} {o : Obj} {u : Value} (ht1 : Turned (fun k => k = b) (w.alloc o) w1) : Turned (fun i => i = b) w (w1.setCell ⟨w.heap.size, j, none⟩ u) :=
  (((Turned.refl _ w).alloc o).trans ht1 (fun _ h => .inl h)).trans (Turned.of_set (ok := fun i => i = w.heap.size) _ _ rfl) (fun i h => .inr (by omega))
theorem items_turned {w w1 : World} {b : Nat} {ok : Nat → Prop} {v : Value} {l : List Itm} (h : ItemsAt w ok v l) (ht : Turned (fun i => i = b) w w1) (hb : ¬ ok b) : ItemsAt w1 ok v l :=
  Kd.R_step h (fun i hi hl => ht.block i hl (fun e => hb (e ▸ hi)))
theorem rd_set {w1 : World} {b B j : Nat} {r : List UInt8} {e : Int} {u : Value} (h : RdAt w1 b r e) (hB : b ≠ B) : RdAt (w1.setCell ⟨B, j, none⟩ u) b r e := (Below.heap_setCell w1 ⟨B, j, none⟩ u b hB).trans h
theorem index_letter {sh : ByteArray} {k : Nat} {c : UInt8} (hk : k < sh.size) (hc : sh.data.toList.getD k 0 = c) (_hl : isLetter c) (W : World) :
    Calls Tryd.prog 85 #[.string ⟨#[98, 119, 108, 116]⟩, .int .u8 (sh[k].toNat : Int)] W fun e w' => e = .returned (.int .i64 (letterIx c)) ∧ w' = W := by
  have e0 : sh[k] = c := by
    rw [← hc, List.getD_eq_getElem?_getD, List.getElem?_eq_getElem (show k < sh.data.toList.length from hk)]; rfl
  rw [e0]
  have h := Tryd.strings_IndexByte ⟨#[98, 119, 108, 116]⟩ (c.toNat : Int) W
  have e1 : Lib.indexByte (⟨#[98, 119, 108, 116]⟩ : ByteArray).data.toList ((c.toNat : Int).toNat.toUInt8) = letterIx c := by
    rw [← letterIx_of]
    congr 1
    simp
  rw [e1] at h
  exact h

set_option maxRecDepth 100000 in
set_option maxHeartbeats 4000000 in
theorem tail_text (w : World) (sh s : ByteArray) (star : Value) (b k : Nat) (rest : List UInt8) (out : List Itm) (outv : Value) (Q : Exit → Act → World → Prop) (ok : Nat → Prop)
    (u2 u3 u4 u5 u10 u11 u12 u13 u14 u15 u16 u17 u18 u19 u20 u21 u22 u23 u24 u25 u26 u27 u28 u29 u30 u31 u32 u33 u34 u35 u36 u37 u38 u39 u40 u41 u42 u43 u44 u45 u46 u47 u48 u49 u50 u51 u52 u53 u54 u55 u56 u57 u58 u59 u60 u61 u62 u63 u64 u65 u66 u67 u68 u69 u70 u71 u72 u73 u74 u75 u76 u77 u78 : Value)
    (hk : k < sh.size) (hkl : sh.size ≤ 1000000) (hc : sh.data.toList.getD k 0 = 116) (hR : RdAt w b rest 0) (hO : ItemsAt w ok outv out) (hb : ¬ ok b) (hok : ∀ i, w.heap.size ≤ i → ok i) (hn : out.length < 1000) (hrl : rest.length ≤ 1000000000)
    (hQ : (textL rest).2.2 = 0 → ∀ w' v' u2 u3 u4 u5 u10 u11 u12 u13 u14 u15 u16 u17 u18 u19 u20 u21 u22 u23 u24 u25 u26 u27 u28 u29 u30 u31 u32 u33 u34 u35 u36 u37 u38 u39 u40 u41 u42 u43 u44 u45 u46 u47 u48 u49 u50 u51 u52 u53 u54 u55 u56 u57 u58 u59 u60 u61 u62 u63 u64 u65 u66 u67 u68 u69 u70 u71 u72 u73 u74 u75 u76 u77 u78, RdAt w' b (textL rest).2.1 0 → ItemsAt w' ok v' (out ++ [⟨4, 0, strB (textL rest).1⟩]) → Turned (fun i => i = b ∨ outv.ownBlock = some i) w w' →
      Q (.goto 0) ⟨#[.string sh, .string s, u2, u3, u4, u5, star, .pointer (some ⟨b, 0, none⟩), v', .int .i64 ((k : Int) + 1), u10, u11, u12, u13, u14, u15, u16, u17, u18, u19, u20, u21, u22, u23, u24, u25, u26, u27, u28, u29, u30, u31, u32, u33, u34, u35, u36, u37, u38, u39, u40, u41, u42, u43, u44, u45, u46, u47, u48, u49, u50, u51, u52, u53, u54, u55, u56, u57, u58, u59, u60, u61, u62, u63, u64, u65, u66, u67, u68, u69, u70, u71, u72, u73, u74, u75, u76, u77, u78], []⟩ w')
    (hE : (textL rest).2.2 ≠ 0 → ∀ w' e u0 u1 u2 u3 u6 u7 u8 u9 u10 u11 u12 u13 u14 u15 u16 u17 u18 u19 u20 u21 u22 u23 u24 u25 u26 u27 u28 u29 u30 u31 u32 u33 u34 u35 u36 u37 u38 u39 u40 u41 u42 u43 u44 u45 u46 u47 u48 u49 u50 u51 u52 u53 u54 u55 u56 u57 u58 u59 u60 u61 u62 u63 u64 u65 u66 u67 u68 u69 u70 u71 u72 u73 u74 u75 u76 u77 u78, e = (textL rest).2.2 → Turned (fun i => i = b) w w' → Q .ret ⟨#[u0, u1, u2, u3, .slice none 0 0, .int .i64 e, u6, u7, u8, u9, u10, u11, u12, u13, u14, u15, u16, u17, u18, u19, u20, u21, u22, u23, u24, u25, u26, u27, u28, u29, u30, u31, u32, u33, u34, u35, u36, u37, u38, u39, u40, u41, u42, u43, u44, u45, u46, u47, u48, u49, u50, u51, u52, u53, u54, u55, u56, u57, u58, u59, u60, u61, u62, u63, u64, u65, u66, u67, u68, u69, u70, u71, u72, u73, u74, u75, u76, u77, u78], []⟩ w') :
    TailWp Q ⟨#[.string sh, .string s, u2, u3, u4, u5, star, .pointer (some ⟨b, 0, none⟩), outv, .int .i64 k, u10, u11, u12, u13, u14, u15, u16, u17, u18, u19, u20, u21, u22, u23, u24, u25, u26, u27, u28, u29, u30, u31, u32, u33, u34, u35, u36, u37, u38, u39, u40, u41, u42, u43, u44, u45, u46, u47, u48, u49, u50, u51, u52, u53, u54, u55, u56, u57, u58, u59, u60, u61, u62, u63, u64, u65, u66, u67, u68, u69, u70, u71, u72, u73, u74, u75, u76, u77, u78], []⟩ w := by
  have hI := fun W => index_letter hk hc (.inr (.inr (.inr rfl))) W
  rw [show letterIx 116 = 3 from rfl] at hI
  have hT : ∀ W, RdAt W b rest 0 → Calls Tryd.prog 86 #[.pointer (some ⟨b, 0, none⟩)] W (fun e w' => e = .returned (.string (strB (textL rest).1)) ∧ RdAt w' b (textL rest).2.1 (textL rest).2.2 ∧ Turned (fun k => k = b) W w') := fun W h => text_any W b rest h (by omega)
  obtain ⟨A, c, rfl⟩ := Kd.R_slice hO
  have hbl := blk_lt hR
  obtain ⟨e, he⟩ : ∃ e, (textL rest).2.2 = e := ⟨_, rfl⟩
  obtain ⟨S, hS⟩ : ∃ S, strB (textL rest).1 = S := ⟨_, rfl⟩
  rw [he, hS] at hT hQ
  rw [he] at hE
  by_cases he0 : e = 0
  · have hQ' := hQ he0
    rw [he0] at hT
    have HI := Lib.hid hI
    have HT := Lib.hid hT
    have HR := Lib.hid hR
    have HO := Lib.hid hO
    have HQ := Lib.hid hQ'
    have HOK := Lib.hid hok
    have HB := Lib.hid hb
    clear hI hT hR hO hQ hQ' hE hok hc hb he hS he0
    unfold TailWp Tryd.f56
    simp only [seqB, unscope, Option.getD]
    go_wp2_with (first | (go_at_call 85; refine (HI.out _).mono ?_; rintro e w1 ⟨rfl, hw⟩; rw [hw]; clear hw w1) | (go_at_call 86; refine (HT.out _ (below_at (below_alloc (Below.refl _ _) _) HR.out)).mono ?_; rintro e w1 ⟨rfl, hR1, ht1⟩; have hx1 := ht1.at_ (heap_alloc_new w _) (fun e => by omega); have x0 := cell_blk (j := 0) hx1 rfl; have x1 := cell_blk (j := 1) hx1 rfl; have x2 := cell_blk (j := 2) hx1 rfl; have xf := free_blk (j := 2) hx1; have c1 : w1.cell? ⟨b, 1, none⟩ = some (.int .i64 0) := cell_blk (j := 1) hR1 rfl; have hk0 : Turned (fun i => i = b) w (w1.setCell ⟨w.heap.size, 2, none⟩ (.string S)) := tail_turned ht1; have HK0 := Lib.hid hk0; have HR1 := Lib.hid hR1; clear ht1 hx1 hk0 hR1) | (at_builtin; refine Kd.R_append kItem (w0 := w1.setCell ⟨w.heap.size, 2, none⟩ (.string S)) (W := w1.setCell ⟨w.heap.size, 2, none⟩ (.string S)) 0 rfl (.tmp 69) (.tmp 71) 84 89 _ 32 rfl Tryd.underlying84 infoItem rfl (by decide) (by decide) (.slice A out.length c) out ⟨4, 0, S⟩ (Itm.cells ⟨4, 0, S⟩) ok (fun _ => False) rfl (by first | rfl | exact congrArg (fun q => Value.slice (some ⟨q, 0, none⟩) 1 1) (by simp [World.setCell])) rfl (fun _ h => h.elim) (fun k hk => HOK.out k (Nat.le_trans HK0.out.size hk)) (items_turned HO.out HK0.out HB.out) (Below.refl _ _) (Nat.zero_le _) (by omega) ?_; intro v1 w2 hv1 _ hg1 _))
    have hg := Turned.of_grown (ok := fun i => (Value.slice A out.length c).ownBlock = some i) hg1 (fun k hk => hk)
    have hr2 : RdAt w2 b (textL rest).2.1 0 := hg.at_ (rd_set HR1.out (by omega)) (fun h => HB.out (HO.out.1 _ h))
    have hk2 := ((HK0.out.mono (ok1 := fun i => i = b ∨ (Value.slice A out.length c).ownBlock = some i) (fun _ h => .inl h)).trans hg (fun i h => .inl (.inr h)))
    go_step3
    exact HQ.out w2 v1 _ _ _ _ _ _ _ _ _ _ _ _ _ _ _ _ _ _ _ _ _ _ _ _ _ _ _ _ _ _ _ _ _ _ _ _ _ _ _ _ _ _ _ _ _ _ _ _ _ _ _ _ _ _ _ _ _ _ _ _ _ _ _ _ _ _ _ _ _ _ _ _ _ hr2 hv1 hk2
  · have hE' := hE he0
    have HI := Lib.hid hI
    have HT := Lib.hid hT
    have HR := Lib.hid hR
    have HE := Lib.hid hE'
    clear hI hT hR hO hQ hE hE' hok hc hb he hS
    unfold TailWp Tryd.f56
    simp only [seqB, unscope, Option.getD]
    go_wp2_with (first | (go_at_call 85; refine (HI.out _).mono ?_; rintro e w1 ⟨rfl, hw⟩; rw [hw]; clear hw w1) | (go_at_call 86; refine (HT.out _ (below_at (below_alloc (Below.refl _ _) _) HR.out)).mono ?_; rintro _ w1 ⟨rfl, hR1, ht1⟩; have hx1 := ht1.at_ (heap_alloc_new w _) (fun e => by omega); have x0 := cell_blk (j := 0) hx1 rfl; have x1 := cell_blk (j := 1) hx1 rfl; have x2 := cell_blk (j := 2) hx1 rfl; have xf := free_blk (j := 2) hx1; have c1 : w1.cell? ⟨b, 1, none⟩ = some (.int .i64 e) := cell_blk (j := 1) hR1 rfl; have hk0 : Turned (fun i => i = b) w (w1.setCell ⟨w.heap.size, 2, none⟩ (.string S)) := tail_turned ht1; have HK0 := Lib.hid hk0; have HR1 := Lib.hid hR1; clear ht1 hx1 hk0 hR1))
    have c2 : (w1.setCell ⟨w.heap.size, 2, none⟩ (.string S)).cell? ⟨b, 1, none⟩ = some (.int .i64 e) := cell_blk (j := 1) (rd_set HR1.out (by omega)) rfl
    clear c1 x0 x1 x2 xf
    go_quiet (fail)
    go_wp2
    exact HE.out _ e _ _ _ _ _ _ _ _ _ _ _ _ _ _ _ _ _ _ _ _ _ _ _ _ _ _ _ _ _ _ _ _ _ _ _ _ _ _ _ _ _ _ _ _ _ _ _ _ _ _ _ _ _ _ _ _ _ _ _ _ _ _ _ _ _ _ _ _ _ _ _ _ _ _ _ _ _ rfl (HK0.out.drewN nq)
end Go.Proofs.YtdbnanniboiooaaDoor
namespace Go.Proofs.YtdbnanniboiooaaDoor
open Go.RowKit Go.Proofs.Carillon Go.Proofs.YtdbnanniboiooaaDoorW.PrintWords Go.Lib Go.Shelf
set_option maxRecDepth 100000 in
set_option maxHeartbeats 4000000 in
theorem tail_num_b (w : World) (sh s : ByteArray) (star : Value) (b k : Nat) (rest : List UInt8) (out : List Itm) (outv : Value) (Q : Exit → Act → World → Prop) (ok : Nat → Prop)
    (u2 u3 u4 u5 u10 u11 u12 u13 u14 u15 u16 u17 u18 u19 u20 u21 u22 u23 u24 u25 u26 u27 u28 u29 u30 u31 u32 u33 u34 u35 u36 u37 u38 u39 u40 u41 u42 u43 u44 u45 u46 u47 u48 u49 u50 u51 u52 u53 u54 u55 u56 u57 u58 u59 u60 u61 u62 u63 u64 u65 u66 u67 u68 u69 u70 u71 u72 u73 u74 u75 u76 u77 u78 : Value)
    (hk : k < sh.size) (hkl : sh.size ≤ 1000000) (hc : sh.data.toList.getD k 0 = 98) (hS : SizesAt w) (hR : RdAt w b rest 0) (hO : ItemsAt w ok outv out) (hb : ¬ ok b) (hok : ∀ i, w.heap.size ≤ i → ok i) (hn : out.length < 1000) (hrl : rest.length ≤ 1000000000)
    (hQ : ¬ rest.length < 1 → ∀ w' v' u2 u3 u4 u5 u10 u11 u12 u13 u14 u15 u16 u17 u18 u19 u20 u21 u22 u23 u24 u25 u26 u27 u28 u29 u30 u31 u32 u33 u34 u35 u36 u37 u38 u39 u40 u41 u42 u43 u44 u45 u46 u47 u48 u49 u50 u51 u52 u53 u54 u55 u56 u57 u58 u59 u60 u61 u62 u63 u64 u65 u66 u67 u68 u69 u70 u71 u72 u73 u74 u75 u76 u77 u78, RdAt w' b (rest.drop 1) 0 → ItemsAt w' ok v' (out ++ [⟨1, ((valL (rest.take 1) : Nat) : Int), ⟨#[]⟩⟩]) → Turned (fun i => i = b ∨ outv.ownBlock = some i) w w' →
      Q (.goto 0) ⟨#[.string sh, .string s, u2, u3, u4, u5, star, .pointer (some ⟨b, 0, none⟩), v', .int .i64 ((k : Int) + 1), u10, u11, u12, u13, u14, u15, u16, u17, u18, u19, u20, u21, u22, u23, u24, u25, u26, u27, u28, u29, u30, u31, u32, u33, u34, u35, u36, u37, u38, u39, u40, u41, u42, u43, u44, u45, u46, u47, u48, u49, u50, u51, u52, u53, u54, u55, u56, u57, u58, u59, u60, u61, u62, u63, u64, u65, u66, u67, u68, u69, u70, u71, u72, u73, u74, u75, u76, u77, u78], []⟩ w')
    (hE : rest.length < 1 → ∀ w' e u0 u1 u2 u3 u6 u7 u8 u9 u10 u11 u12 u13 u14 u15 u16 u17 u18 u19 u20 u21 u22 u23 u24 u25 u26 u27 u28 u29 u30 u31 u32 u33 u34 u35 u36 u37 u38 u39 u40 u41 u42 u43 u44 u45 u46 u47 u48 u49 u50 u51 u52 u53 u54 u55 u56 u57 u58 u59 u60 u61 u62 u63 u64 u65 u66 u67 u68 u69 u70 u71 u72 u73 u74 u75 u76 u77 u78, e = 2 → Turned (fun i => i = b) w w' → Q .ret ⟨#[u0, u1, u2, u3, .slice none 0 0, .int .i64 e, u6, u7, u8, u9, u10, u11, u12, u13, u14, u15, u16, u17, u18, u19, u20, u21, u22, u23, u24, u25, u26, u27, u28, u29, u30, u31, u32, u33, u34, u35, u36, u37, u38, u39, u40, u41, u42, u43, u44, u45, u46, u47, u48, u49, u50, u51, u52, u53, u54, u55, u56, u57, u58, u59, u60, u61, u62, u63, u64, u65, u66, u67, u68, u69, u70, u71, u72, u73, u74, u75, u76, u77, u78], []⟩ w') :
    TailWp Q ⟨#[.string sh, .string s, u2, u3, u4, u5, star, .pointer (some ⟨b, 0, none⟩), outv, .int .i64 k, u10, u11, u12, u13, u14, u15, u16, u17, u18, u19, u20, u21, u22, u23, u24, u25, u26, u27, u28, u29, u30, u31, u32, u33, u34, u35, u36, u37, u38, u39, u40, u41, u42, u43, u44, u45, u46, u47, u48, u49, u50, u51, u52, u53, u54, u55, u56, u57, u58, u59, u60, u61, u62, u63, u64, u65, u66, u67, u68, u69, u70, u71, u72, u73, u74, u75, u76, u77, u78], []⟩ w := by
  have hI := fun W => index_letter hk hc (by unfold isLetter; decide) W
  rw [show letterIx 98 = 0 from rfl] at hI
  have hT0 := fun W (h : RdAt W b rest 0) (hl : rest.length < 1) => number_short W b rest 0 1 h hl
  have hT := fun W (h : RdAt W b rest 0) (hl : 1 ≤ rest.length) => number_ok W b rest 0 1 h hl (by decide) (by omega)
  have s0 : ∀ o, (w.alloc o).cell? ⟨0, 1, none⟩ = some (.int .i64 1) := fun o => (hS.below (below_alloc (Below.refl _ _) o)).1
  obtain ⟨A, c, rfl⟩ := Kd.R_slice hO
  have hbl := blk_lt hR
  obtain ⟨S, hS'⟩ : ∃ S : Int, ((valL (rest.take 1) : Nat) : Int) = S := ⟨_, rfl⟩
  rw [hS'] at hT hQ
  by_cases he0 : 1 ≤ rest.length
  · have hQ' := hQ (by omega)
    have HI := Lib.hid hI
    have HT := Lib.hid hT
    have HR := Lib.hid hR
    have HO := Lib.hid hO
    have HQ := Lib.hid hQ'
    have HOK := Lib.hid hok
    have HB := Lib.hid hb
    clear hI hT hT0 hR hO hQ hQ' hE hok hc hb hS' hS
    unfold TailWp Tryd.f56
    simp only [seqB, unscope, Option.getD]
    go_wp2_with (first | (go_at_call 85; refine (HI.out _).mono ?_; rintro e w1 ⟨rfl, hw⟩; rw [hw]; clear hw w1) | (go_at_call 87; refine (HT.out _ (below_at (below_alloc (Below.refl _ _) _) HR.out) he0).mono ?_; rintro e w1 ⟨rfl, hR1, ht1⟩; have hx1 := ht1.at_ (heap_alloc_new w _) (fun e => by omega); have x0 := cell_blk (j := 0) hx1 rfl; have x1 := cell_blk (j := 1) hx1 rfl; have x2 := cell_blk (j := 2) hx1 rfl; have xf := free_blk (j := 1) hx1; have c1 : w1.cell? ⟨b, 1, none⟩ = some (.int .i64 0) := cell_blk (j := 1) hR1 rfl; have hk0 : Turned (fun i => i = b) w (w1.setCell ⟨w.heap.size, 1, none⟩ (.int .u64 S)) := tail_turned ht1; have HK0 := Lib.hid hk0; have HR1 := Lib.hid hR1; clear ht1 hx1 hk0 hR1) | (at_builtin; refine Kd.R_append kItem (w0 := w1.setCell ⟨w.heap.size, 1, none⟩ (.int .u64 S)) (W := w1.setCell ⟨w.heap.size, 1, none⟩ (.int .u64 S)) 0 rfl (.tmp 69) (.tmp 71) 84 89 _ 32 rfl Tryd.underlying84 infoItem rfl (by decide) (by decide) (.slice A out.length c) out ⟨1, S, ⟨#[]⟩⟩ (Itm.cells ⟨1, S, ⟨#[]⟩⟩) ok (fun _ => False) rfl (by first | rfl | exact congrArg (fun q => Value.slice (some ⟨q, 0, none⟩) 1 1) (by simp [World.setCell])) rfl (fun _ h => h.elim) (fun k hk => HOK.out k (Nat.le_trans HK0.out.size hk)) (items_turned HO.out HK0.out HB.out) (Below.refl _ _) (Nat.zero_le _) (by omega) ?_; intro v1 w2 hv1 _ hg1 _))
    have hg := Turned.of_grown (ok := fun i => (Value.slice A out.length c).ownBlock = some i) hg1 (fun k hk => hk)
    have hr2 : RdAt w2 b (rest.drop 1) 0 := hg.at_ (rd_set HR1.out (by omega)) (fun h => HB.out (HO.out.1 _ h))
    have hk2 := ((HK0.out.mono (ok1 := fun i => i = b ∨ (Value.slice A out.length c).ownBlock = some i) (fun _ h => .inl h)).trans hg (fun i h => .inl (.inr h)))
    go_step3
    exact HQ.out w2 v1 _ _ _ _ _ _ _ _ _ _ _ _ _ _ _ _ _ _ _ _ _ _ _ _ _ _ _ _ _ _ _ _ _ _ _ _ _ _ _ _ _ _ _ _ _ _ _ _ _ _ _ _ _ _ _ _ _ _ _ _ _ _ _ _ _ _ _ _ _ _ _ _ _ hr2 hv1 hk2
  · have hE' := hE (by omega)
    have HI := Lib.hid hI
    have HT := Lib.hid hT0
    have HR := Lib.hid hR
    have HE := Lib.hid hE'
    clear hI hT hT0 hR hO hQ hE hE' hok hc hb hS' hS
    unfold TailWp Tryd.f56
    simp only [seqB, unscope, Option.getD]
    go_wp2_with (first | (go_at_call 85; refine (HI.out _).mono ?_; rintro e w1 ⟨rfl, hw⟩; rw [hw]; clear hw w1) | (go_at_call 87; refine (HT.out _ (below_at (below_alloc (Below.refl _ _) _) HR.out) (by omega)).mono ?_; rintro _ w1 ⟨rfl, hR1, ht1⟩; have hx1 := ht1.at_ (heap_alloc_new w _) (fun e => by omega); have x0 := cell_blk (j := 0) hx1 rfl; have x1 := cell_blk (j := 1) hx1 rfl; have x2 := cell_blk (j := 2) hx1 rfl; have xf := free_blk (j := 1) hx1; have c1 : w1.cell? ⟨b, 1, none⟩ = some (.int .i64 2) := cell_blk (j := 1) hR1 rfl; have hk0 : Turned (fun i => i = b) w (w1.setCell ⟨w.heap.size, 1, none⟩ (.int .u64 0)) := tail_turned ht1; have HK0 := Lib.hid hk0; have HR1 := Lib.hid hR1; clear ht1 hx1 hk0 hR1))
    have c2 : (w1.setCell ⟨w.heap.size, 1, none⟩ (.int .u64 0)).cell? ⟨b, 1, none⟩ = some (.int .i64 2) := cell_blk (j := 1) (rd_set HR1.out (by omega)) rfl
    clear c1 x0 x1 x2 xf
    go_quiet (fail)
    go_wp2
    exact HE.out _ 2 _ _ _ _ _ _ _ _ _ _ _ _ _ _ _ _ _ _ _ _ _ _ _ _ _ _ _ _ _ _ _ _ _ _ _ _ _ _ _ _ _ _ _ _ _ _ _ _ _ _ _ _ _ _ _ _ _ _ _ _ _ _ _ _ _ _ _ _ _ _ _ _ _ _ _ _ _ rfl (HK0.out.drewN nq)
set_option maxRecDepth 100000 in
set_option maxHeartbeats 4000000 in
theorem tail_num_w (w : World) (sh s : ByteArray) (star : Value) (b k : Nat) (rest : List UInt8) (out : List Itm) (outv : Value) (Q : Exit → Act → World → Prop) (ok : Nat → Prop)
    (u2 u3 u4 u5 u10 u11 u12 u13 u14 u15 u16 u17 u18 u19 u20 u21 u22 u23 u24 u25 u26 u27 u28 u29 u30 u31 u32 u33 u34 u35 u36 u37 u38 u39 u40 u41 u42 u43 u44 u45 u46 u47 u48 u49 u50 u51 u52 u53 u54 u55 u56 u57 u58 u59 u60 u61 u62 u63 u64 u65 u66 u67 u68 u69 u70 u71 u72 u73 u74 u75 u76 u77 u78 : Value)
    (hk : k < sh.size) (hkl : sh.size ≤ 1000000) (hc : sh.data.toList.getD k 0 = 119) (hS : SizesAt w) (hR : RdAt w b rest 0) (hO : ItemsAt w ok outv out) (hb : ¬ ok b) (hok : ∀ i, w.heap.size ≤ i → ok i) (hn : out.length < 1000) (hrl : rest.length ≤ 1000000000)
    (hQ : ¬ rest.length < 4 → ∀ w' v' u2 u3 u4 u5 u10 u11 u12 u13 u14 u15 u16 u17 u18 u19 u20 u21 u22 u23 u24 u25 u26 u27 u28 u29 u30 u31 u32 u33 u34 u35 u36 u37 u38 u39 u40 u41 u42 u43 u44 u45 u46 u47 u48 u49 u50 u51 u52 u53 u54 u55 u56 u57 u58 u59 u60 u61 u62 u63 u64 u65 u66 u67 u68 u69 u70 u71 u72 u73 u74 u75 u76 u77 u78, RdAt w' b (rest.drop 4) 0 → ItemsAt w' ok v' (out ++ [⟨2, ((valL (rest.take 4) : Nat) : Int), ⟨#[]⟩⟩]) → Turned (fun i => i = b ∨ outv.ownBlock = some i) w w' →
      Q (.goto 0) ⟨#[.string sh, .string s, u2, u3, u4, u5, star, .pointer (some ⟨b, 0, none⟩), v', .int .i64 ((k : Int) + 1), u10, u11, u12, u13, u14, u15, u16, u17, u18, u19, u20, u21, u22, u23, u24, u25, u26, u27, u28, u29, u30, u31, u32, u33, u34, u35, u36, u37, u38, u39, u40, u41, u42, u43, u44, u45, u46, u47, u48, u49, u50, u51, u52, u53, u54, u55, u56, u57, u58, u59, u60, u61, u62, u63, u64, u65, u66, u67, u68, u69, u70, u71, u72, u73, u74, u75, u76, u77, u78], []⟩ w')
    (hE : rest.length < 4 → ∀ w' e u0 u1 u2 u3 u6 u7 u8 u9 u10 u11 u12 u13 u14 u15 u16 u17 u18 u19 u20 u21 u22 u23 u24 u25 u26 u27 u28 u29 u30 u31 u32 u33 u34 u35 u36 u37 u38 u39 u40 u41 u42 u43 u44 u45 u46 u47 u48 u49 u50 u51 u52 u53 u54 u55 u56 u57 u58 u59 u60 u61 u62 u63 u64 u65 u66 u67 u68 u69 u70 u71 u72 u73 u74 u75 u76 u77 u78, e = 2 → Turned (fun i => i = b) w w' → Q .ret ⟨#[u0, u1, u2, u3, .slice none 0 0, .int .i64 e, u6, u7, u8, u9, u10, u11, u12, u13, u14, u15, u16, u17, u18, u19, u20, u21, u22, u23, u24, u25, u26, u27, u28, u29, u30, u31, u32, u33, u34, u35, u36, u37, u38, u39, u40, u41, u42, u43, u44, u45, u46, u47, u48, u49, u50, u51, u52, u53, u54, u55, u56, u57, u58, u59, u60, u61, u62, u63, u64, u65, u66, u67, u68, u69, u70, u71, u72, u73, u74, u75, u76, u77, u78], []⟩ w') :
    TailWp Q ⟨#[.string sh, .string s, u2, u3, u4, u5, star, .pointer (some ⟨b, 0, none⟩), outv, .int .i64 k, u10, u11, u12, u13, u14, u15, u16, u17, u18, u19, u20, u21, u22, u23, u24, u25, u26, u27, u28, u29, u30, u31, u32, u33, u34, u35, u36, u37, u38, u39, u40, u41, u42, u43, u44, u45, u46, u47, u48, u49, u50, u51, u52, u53, u54, u55, u56, u57, u58, u59, u60, u61, u62, u63, u64, u65, u66, u67, u68, u69, u70, u71, u72, u73, u74, u75, u76, u77, u78], []⟩ w := by
  have hI := fun W => index_letter hk hc (by unfold isLetter; decide) W
  rw [show letterIx 119 = 1 from rfl] at hI
  have hT0 := fun W (h : RdAt W b rest 0) (hl : rest.length < 4) => number_short W b rest 0 4 h hl
  have hT := fun W (h : RdAt W b rest 0) (hl : 4 ≤ rest.length) => number_ok W b rest 0 4 h hl (by decide) (by omega)
  have s0 : ∀ o, (w.alloc o).cell? ⟨0, 2, none⟩ = some (.int .i64 4) := fun o => (hS.below (below_alloc (Below.refl _ _) o)).2.1
  obtain ⟨A, c, rfl⟩ := Kd.R_slice hO
  have hbl := blk_lt hR
  obtain ⟨S, hS'⟩ : ∃ S : Int, ((valL (rest.take 4) : Nat) : Int) = S := ⟨_, rfl⟩
  rw [hS'] at hT hQ
  by_cases he0 : 4 ≤ rest.length
  · have hQ' := hQ (by omega)
    have HI := Lib.hid hI
    have HT := Lib.hid hT
    have HR := Lib.hid hR
    have HO := Lib.hid hO
    have HQ := Lib.hid hQ'
    have HOK := Lib.hid hok
    have HB := Lib.hid hb
    clear hI hT hT0 hR hO hQ hQ' hE hok hc hb hS' hS
    unfold TailWp Tryd.f56
    simp only [seqB, unscope, Option.getD]
    go_wp2_with (first | (go_at_call 85; refine (HI.out _).mono ?_; rintro e w1 ⟨rfl, hw⟩; rw [hw]; clear hw w1) | (go_at_call 87; refine (HT.out _ (below_at (below_alloc (Below.refl _ _) _) HR.out) he0).mono ?_; rintro e w1 ⟨rfl, hR1, ht1⟩; have hx1 := ht1.at_ (heap_alloc_new w _) (fun e => by omega); have x0 := cell_blk (j := 0) hx1 rfl; have x1 := cell_blk (j := 1) hx1 rfl; have x2 := cell_blk (j := 2) hx1 rfl; have xf := free_blk (j := 1) hx1; have c1 : w1.cell? ⟨b, 1, none⟩ = some (.int .i64 0) := cell_blk (j := 1) hR1 rfl; have hk0 : Turned (fun i => i = b) w (w1.setCell ⟨w.heap.size, 1, none⟩ (.int .u64 S)) := tail_turned ht1; have HK0 := Lib.hid hk0; have HR1 := Lib.hid hR1; clear ht1 hx1 hk0 hR1) | (at_builtin; refine Kd.R_append kItem (w0 := w1.setCell ⟨w.heap.size, 1, none⟩ (.int .u64 S)) (W := w1.setCell ⟨w.heap.size, 1, none⟩ (.int .u64 S)) 0 rfl (.tmp 69) (.tmp 71) 84 89 _ 32 rfl Tryd.underlying84 infoItem rfl (by decide) (by decide) (.slice A out.length c) out ⟨2, S, ⟨#[]⟩⟩ (Itm.cells ⟨2, S, ⟨#[]⟩⟩) ok (fun _ => False) rfl (by first | rfl | exact congrArg (fun q => Value.slice (some ⟨q, 0, none⟩) 1 1) (by simp [World.setCell])) rfl (fun _ h => h.elim) (fun k hk => HOK.out k (Nat.le_trans HK0.out.size hk)) (items_turned HO.out HK0.out HB.out) (Below.refl _ _) (Nat.zero_le _) (by omega) ?_; intro v1 w2 hv1 _ hg1 _))
    have hg := Turned.of_grown (ok := fun i => (Value.slice A out.length c).ownBlock = some i) hg1 (fun k hk => hk)
    have hr2 : RdAt w2 b (rest.drop 4) 0 := hg.at_ (rd_set HR1.out (by omega)) (fun h => HB.out (HO.out.1 _ h))
    have hk2 := ((HK0.out.mono (ok1 := fun i => i = b ∨ (Value.slice A out.length c).ownBlock = some i) (fun _ h => .inl h)).trans hg (fun i h => .inl (.inr h)))
    go_step3
    exact HQ.out w2 v1 _ _ _ _ _ _ _ _ _ _ _ _ _ _ _ _ _ _ _ _ _ _ _ _ _ _ _ _ _ _ _ _ _ _ _ _ _ _ _ _ _ _ _ _ _ _ _ _ _ _ _ _ _ _ _ _ _ _ _ _ _ _ _ _ _ _ _ _ _ _ _ _ _ hr2 hv1 hk2
  · have hE' := hE (by omega)
    have HI := Lib.hid hI
    have HT := Lib.hid hT0
    have HR := Lib.hid hR
    have HE := Lib.hid hE'
    clear hI hT hT0 hR hO hQ hE hE' hok hc hb hS' hS
    unfold TailWp Tryd.f56
    simp only [seqB, unscope, Option.getD]
    go_wp2_with (first | (go_at_call 85; refine (HI.out _).mono ?_; rintro e w1 ⟨rfl, hw⟩; rw [hw]; clear hw w1) | (go_at_call 87; refine (HT.out _ (below_at (below_alloc (Below.refl _ _) _) HR.out) (by omega)).mono ?_; rintro _ w1 ⟨rfl, hR1, ht1⟩; have hx1 := ht1.at_ (heap_alloc_new w _) (fun e => by omega); have x0 := cell_blk (j := 0) hx1 rfl; have x1 := cell_blk (j := 1) hx1 rfl; have x2 := cell_blk (j := 2) hx1 rfl; have xf := free_blk (j := 1) hx1; have c1 : w1.cell? ⟨b, 1, none⟩ = some (.int .i64 2) := cell_blk (j := 1) hR1 rfl; have hk0 : Turned (fun i => i = b) w (w1.setCell ⟨w.heap.size, 1, none⟩ (.int .u64 0)) := tail_turned ht1; have HK0 := Lib.hid hk0; have HR1 := Lib.hid hR1; clear ht1 hx1 hk0 hR1))
    have c2 : (w1.setCell ⟨w.heap.size, 1, none⟩ (.int .u64 0)).cell? ⟨b, 1, none⟩ = some (.int .i64 2) := cell_blk (j := 1) (rd_set HR1.out (by omega)) rfl
    clear c1 x0 x1 x2 xf
    go_quiet (fail)
    go_wp2
    exact HE.out _ 2 _ _ _ _ _ _ _ _ _ _ _ _ _ _ _ _ _ _ _ _ _ _ _ _ _ _ _ _ _ _ _ _ _ _ _ _ _ _ _ _ _ _ _ _ _ _ _ _ _ _ _ _ _ _ _ _ _ _ _ _ _ _ _ _ _ _ _ _ _ _ _ _ _ _ _ _ _ rfl (HK0.out.drewN nq)
set_option maxRecDepth 100000 in
set_option maxHeartbeats 4000000 in
theorem tail_num_l (w : World) (sh s : ByteArray) (star : Value) (b k : Nat) (rest : List UInt8) (out : List Itm) (outv : Value) (Q : Exit → Act → World → Prop) (ok : Nat → Prop)
    (u2 u3 u4 u5 u10 u11 u12 u13 u14 u15 u16 u17 u18 u19 u20 u21 u22 u23 u24 u25 u26 u27 u28 u29 u30 u31 u32 u33 u34 u35 u36 u37 u38 u39 u40 u41 u42 u43 u44 u45 u46 u47 u48 u49 u50 u51 u52 u53 u54 u55 u56 u57 u58 u59 u60 u61 u62 u63 u64 u65 u66 u67 u68 u69 u70 u71 u72 u73 u74 u75 u76 u77 u78 : Value)
    (hk : k < sh.size) (hkl : sh.size ≤ 1000000) (hc : sh.data.toList.getD k 0 = 108) (hS : SizesAt w) (hR : RdAt w b rest 0) (hO : ItemsAt w ok outv out) (hb : ¬ ok b) (hok : ∀ i, w.heap.size ≤ i → ok i) (hn : out.length < 1000) (hrl : rest.length ≤ 1000000000)
    (hQ : ¬ rest.length < 8 → ∀ w' v' u2 u3 u4 u5 u10 u11 u12 u13 u14 u15 u16 u17 u18 u19 u20 u21 u22 u23 u24 u25 u26 u27 u28 u29 u30 u31 u32 u33 u34 u35 u36 u37 u38 u39 u40 u41 u42 u43 u44 u45 u46 u47 u48 u49 u50 u51 u52 u53 u54 u55 u56 u57 u58 u59 u60 u61 u62 u63 u64 u65 u66 u67 u68 u69 u70 u71 u72 u73 u74 u75 u76 u77 u78, RdAt w' b (rest.drop 8) 0 → ItemsAt w' ok v' (out ++ [⟨3, ((valL (rest.take 8) : Nat) : Int), ⟨#[]⟩⟩]) → Turned (fun i => i = b ∨ outv.ownBlock = some i) w w' →
      Q (.goto 0) ⟨#[.string sh, .string s, u2, u3, u4, u5, star, .pointer (some ⟨b, 0, none⟩), v', .int .i64 ((k : Int) + 1), u10, u11, u12, u13, u14, u15, u16, u17, u18, u19, u20, u21, u22, u23, u24, u25, u26, u27, u28, u29, u30, u31, u32, u33, u34, u35, u36, u37, u38, u39, u40, u41, u42, u43, u44, u45, u46, u47, u48, u49, u50, u51, u52, u53, u54, u55, u56, u57, u58, u59, u60, u61, u62, u63, u64, u65, u66, u67, u68, u69, u70, u71, u72, u73, u74, u75, u76, u77, u78], []⟩ w')
    (hE : rest.length < 8 → ∀ w' e u0 u1 u2 u3 u6 u7 u8 u9 u10 u11 u12 u13 u14 u15 u16 u17 u18 u19 u20 u21 u22 u23 u24 u25 u26 u27 u28 u29 u30 u31 u32 u33 u34 u35 u36 u37 u38 u39 u40 u41 u42 u43 u44 u45 u46 u47 u48 u49 u50 u51 u52 u53 u54 u55 u56 u57 u58 u59 u60 u61 u62 u63 u64 u65 u66 u67 u68 u69 u70 u71 u72 u73 u74 u75 u76 u77 u78, e = 2 → Turned (fun i => i = b) w w' → Q .ret ⟨#[u0, u1, u2, u3, .slice none 0 0, .int .i64 e, u6, u7, u8, u9, u10, u11, u12, u13, u14, u15, u16, u17, u18, u19, u20, u21, u22, u23, u24, u25, u26, u27, u28, u29, u30, u31, u32, u33, u34, u35, u36, u37, u38, u39, u40, u41, u42, u43, u44, u45, u46, u47, u48, u49, u50, u51, u52, u53, u54, u55, u56, u57, u58, u59, u60, u61, u62, u63, u64, u65, u66, u67, u68, u69, u70, u71, u72, u73, u74, u75, u76, u77, u78], []⟩ w') :
    TailWp Q ⟨#[.string sh, .string s, u2, u3, u4, u5, star, .pointer (some ⟨b, 0, none⟩), outv, .int .i64 k, u10, u11, u12, u13, u14, u15, u16, u17, u18, u19, u20, u21, u22, u23, u24, u25, u26, u27, u28, u29, u30, u31, u32, u33, u34, u35, u36, u37, u38, u39, u40, u41, u42, u43, u44, u45, u46, u47, u48, u49, u50, u51, u52, u53, u54, u55, u56, u57, u58, u59, u60, u61, u62, u63, u64, u65, u66, u67, u68, u69, u70, u71, u72, u73, u74, u75, u76, u77, u78], []⟩ w := by
  have hI := fun W => index_letter hk hc (by unfold isLetter; decide) W
  rw [show letterIx 108 = 2 from rfl] at hI
  have hT0 := fun W (h : RdAt W b rest 0) (hl : rest.length < 8) => number_short W b rest 0 8 h hl
  have hT := fun W (h : RdAt W b rest 0) (hl : 8 ≤ rest.length) => number_ok W b rest 0 8 h hl (by decide) (by omega)
  have s0 : ∀ o, (w.alloc o).cell? ⟨0, 3, none⟩ = some (.int .i64 8) := fun o => (hS.below (below_alloc (Below.refl _ _) o)).2.2
  obtain ⟨A, c, rfl⟩ := Kd.R_slice hO
  have hbl := blk_lt hR
  obtain ⟨S, hS'⟩ : ∃ S : Int, ((valL (rest.take 8) : Nat) : Int) = S := ⟨_, rfl⟩
  rw [hS'] at hT hQ
  by_cases he0 : 8 ≤ rest.length
  · have hQ' := hQ (by omega)
    have HI := Lib.hid hI
    have HT := Lib.hid hT
    have HR := Lib.hid hR
    have HO := Lib.hid hO
    have HQ := Lib.hid hQ'
    have HOK := Lib.hid hok
    have HB := Lib.hid hb
    clear hI hT hT0 hR hO hQ hQ' hE hok hc hb hS' hS
    unfold TailWp Tryd.f56
    simp only [seqB, unscope, Option.getD]
    go_wp2_with (first | (go_at_call 85; refine (HI.out _).mono ?_; rintro e w1 ⟨rfl, hw⟩; rw [hw]; clear hw w1) | (go_at_call 87; refine (HT.out _ (below_at (below_alloc (Below.refl _ _) _) HR.out) he0).mono ?_; rintro e w1 ⟨rfl, hR1, ht1⟩; have hx1 := ht1.at_ (heap_alloc_new w _) (fun e => by omega); have x0 := cell_blk (j := 0) hx1 rfl; have x1 := cell_blk (j := 1) hx1 rfl; have x2 := cell_blk (j := 2) hx1 rfl; have xf := free_blk (j := 1) hx1; have c1 : w1.cell? ⟨b, 1, none⟩ = some (.int .i64 0) := cell_blk (j := 1) hR1 rfl; have hk0 : Turned (fun i => i = b) w (w1.setCell ⟨w.heap.size, 1, none⟩ (.int .u64 S)) := tail_turned ht1; have HK0 := Lib.hid hk0; have HR1 := Lib.hid hR1; clear ht1 hx1 hk0 hR1) | (at_builtin; refine Kd.R_append kItem (w0 := w1.setCell ⟨w.heap.size, 1, none⟩ (.int .u64 S)) (W := w1.setCell ⟨w.heap.size, 1, none⟩ (.int .u64 S)) 0 rfl (.tmp 69) (.tmp 71) 84 89 _ 32 rfl Tryd.underlying84 infoItem rfl (by decide) (by decide) (.slice A out.length c) out ⟨3, S, ⟨#[]⟩⟩ (Itm.cells ⟨3, S, ⟨#[]⟩⟩) ok (fun _ => False) rfl (by first | rfl | exact congrArg (fun q => Value.slice (some ⟨q, 0, none⟩) 1 1) (by simp [World.setCell])) rfl (fun _ h => h.elim) (fun k hk => HOK.out k (Nat.le_trans HK0.out.size hk)) (items_turned HO.out HK0.out HB.out) (Below.refl _ _) (Nat.zero_le _) (by omega) ?_; intro v1 w2 hv1 _ hg1 _))
    have hg := Turned.of_grown (ok := fun i => (Value.slice A out.length c).ownBlock = some i) hg1 (fun k hk => hk)
    have hr2 : RdAt w2 b (rest.drop 8) 0 := hg.at_ (rd_set HR1.out (by omega)) (fun h => HB.out (HO.out.1 _ h))
    have hk2 := ((HK0.out.mono (ok1 := fun i => i = b ∨ (Value.slice A out.length c).ownBlock = some i) (fun _ h => .inl h)).trans hg (fun i h => .inl (.inr h)))
    go_step3
    exact HQ.out w2 v1 _ _ _ _ _ _ _ _ _ _ _ _ _ _ _ _ _ _ _ _ _ _ _ _ _ _ _ _ _ _ _ _ _ _ _ _ _ _ _ _ _ _ _ _ _ _ _ _ _ _ _ _ _ _ _ _ _ _ _ _ _ _ _ _ _ _ _ _ _ _ _ _ _ hr2 hv1 hk2
  · have hE' := hE (by omega)
    have HI := Lib.hid hI
    have HT := Lib.hid hT0
    have HR := Lib.hid hR
    have HE := Lib.hid hE'
    clear hI hT hT0 hR hO hQ hE hE' hok hc hb hS' hS
    unfold TailWp Tryd.f56
    simp only [seqB, unscope, Option.getD]
    go_wp2_with (first | (go_at_call 85; refine (HI.out _).mono ?_; rintro e w1 ⟨rfl, hw⟩; rw [hw]; clear hw w1) | (go_at_call 87; refine (HT.out _ (below_at (below_alloc (Below.refl _ _) _) HR.out) (by omega)).mono ?_; rintro _ w1 ⟨rfl, hR1, ht1⟩; have hx1 := ht1.at_ (heap_alloc_new w _) (fun e => by omega); have x0 := cell_blk (j := 0) hx1 rfl; have x1 := cell_blk (j := 1) hx1 rfl; have x2 := cell_blk (j := 2) hx1 rfl; have xf := free_blk (j := 1) hx1; have c1 : w1.cell? ⟨b, 1, none⟩ = some (.int .i64 2) := cell_blk (j := 1) hR1 rfl; have hk0 : Turned (fun i => i = b) w (w1.setCell ⟨w.heap.size, 1, none⟩ (.int .u64 0)) := tail_turned ht1; have HK0 := Lib.hid hk0; have HR1 := Lib.hid hR1; clear ht1 hx1 hk0 hR1))
    have c2 : (w1.setCell ⟨w.heap.size, 1, none⟩ (.int .u64 0)).cell? ⟨b, 1, none⟩ = some (.int .i64 2) := cell_blk (j := 1) (rd_set HR1.out (by omega)) rfl
    clear c1 x0 x1 x2 xf
    go_quiet (fail)
    go_wp2
    exact HE.out _ 2 _ _ _ _ _ _ _ _ _ _ _ _ _ _ _ _ _ _ _ _ _ _ _ _ _ _ _ _ _ _ _ _ _ _ _ _ _ _ _ _ _ _ _ _ _ _ _ _ _ _ _ _ _ _ _ _ _ _ _ _ _ _ _ _ _ _ _ _ _ _ _ _ _ _ _ _ _ rfl (HK0.out.drewN nq)
end Go.Proofs.YtdbnanniboiooaaDoor
namespace Go.Proofs.YtdbnanniboiooaaDoor
open Go.RowKit Go.Proofs.Carillon Go.Proofs.YtdbnanniboiooaaDoorW.PrintWords Go.Lib Go.Shelf

set_option maxRecDepth 100000 in
set_option maxHeartbeats 4000000 in
theorem tail_full (w : World) (sh s : ByteArray) (star : Value) (b k : Nat) (c : UInt8) (out : List Itm) (outv : Value) (Q : Exit → Act → World → Prop) (ok : Nat → Prop)
    (u2 u3 u4 u5 u10 u11 u12 u13 u14 u15 u16 u17 u18 u19 u20 u21 u22 u23 u24 u25 u26 u27 u28 u29 u30 u31 u32 u33 u34 u35 u36 u37 u38 u39 u40 u41 u42 u43 u44 u45 u46 u47 u48 u49 u50 u51 u52 u53 u54 u55 u56 u57 u58 u59 u60 u61 u62 u63 u64 u65 u66 u67 u68 u69 u70 u71 u72 u73 u74 u75 u76 u77 u78 : Value)
    (hk : k < sh.size) (_hkl : sh.size ≤ 1000000) (hcl : isLetter c) (hc : sh.data.toList.getD k 0 = c) (hO : ItemsAt w ok outv out) (hn : out.length = 1000)
    (hE : ∀ w' e u0 u1 u2 u3 u6 u7 u8 u9 u10 u11 u12 u13 u14 u15 u16 u17 u18 u19 u20 u21 u22 u23 u24 u25 u26 u27 u28 u29 u30 u31 u32 u33 u34 u35 u36 u37 u38 u39 u40 u41 u42 u43 u44 u45 u46 u47 u48 u49 u50 u51 u52 u53 u54 u55 u56 u57 u58 u59 u60 u61 u62 u63 u64 u65 u66 u67 u68 u69 u70 u71 u72 u73 u74 u75 u76 u77 u78, e = 3 → Turned (fun i => i = b) w w' → Q .ret ⟨#[u0, u1, u2, u3, .slice none 0 0, .int .i64 e, u6, u7, u8, u9, u10, u11, u12, u13, u14, u15, u16, u17, u18, u19, u20, u21, u22, u23, u24, u25, u26, u27, u28, u29, u30, u31, u32, u33, u34, u35, u36, u37, u38, u39, u40, u41, u42, u43, u44, u45, u46, u47, u48, u49, u50, u51, u52, u53, u54, u55, u56, u57, u58, u59, u60, u61, u62, u63, u64, u65, u66, u67, u68, u69, u70, u71, u72, u73, u74, u75, u76, u77, u78], []⟩ w') :
    TailWp Q ⟨#[.string sh, .string s, u2, u3, u4, u5, star, .pointer (some ⟨b, 0, none⟩), outv, .int .i64 k, u10, u11, u12, u13, u14, u15, u16, u17, u18, u19, u20, u21, u22, u23, u24, u25, u26, u27, u28, u29, u30, u31, u32, u33, u34, u35, u36, u37, u38, u39, u40, u41, u42, u43, u44, u45, u46, u47, u48, u49, u50, u51, u52, u53, u54, u55, u56, u57, u58, u59, u60, u61, u62, u63, u64, u65, u66, u67, u68, u69, u70, u71, u72, u73, u74, u75, u76, u77, u78], []⟩ w := by
  have hI := fun W => index_letter hk hc hcl W
  have hq := letterIx_pos hcl
  obtain ⟨q, hq'⟩ : ∃ q, letterIx c = q := ⟨_, rfl⟩
  rw [hq'] at hI hq
  obtain ⟨A, c, rfl⟩ := Kd.R_slice hO
  have q0 := hq.1
  have q1 := hq.2
  have HI := Lib.hid hI
  have HE := Lib.hid hE
  clear hI hO hE hc hcl hq' hq
  rw [hn]
  unfold TailWp Tryd.f56
  simp only [seqB, unscope, Option.getD]
  go_wp2_with (go_at_call 85; refine (HI.out _).mono ?_; rintro e w1 ⟨rfl, hw⟩; rw [hw]; clear hw w1)
  exact HE.out _ 3 _ _ _ _ _ _ _ _ _ _ _ _ _ _ _ _ _ _ _ _ _ _ _ _ _ _ _ _ _ _ _ _ _ _ _ _ _ _ _ _ _ _ _ _ _ _ _ _ _ _ _ _ _ _ _ _ _ _ _ _ _ _ _ _ _ _ _ _ _ _ _ _ _ _ _ _ _ rfl ((Turned.refl _ w).alloc _)

theorem tail_any (w : World) (sh s : ByteArray) (star : Value) (b k : Nat) (c : UInt8) (rest : List UInt8) (out : List Itm) (outv : Value) (Q : Exit → Act → World → Prop) (ok : Nat → Prop)
    (u2 u3 u4 u5 u10 u11 u12 u13 u14 u15 u16 u17 u18 u19 u20 u21 u22 u23 u24 u25 u26 u27 u28 u29 u30 u31 u32 u33 u34 u35 u36 u37 u38 u39 u40 u41 u42 u43 u44 u45 u46 u47 u48 u49 u50 u51 u52 u53 u54 u55 u56 u57 u58 u59 u60 u61 u62 u63 u64 u65 u66 u67 u68 u69 u70 u71 u72 u73 u74 u75 u76 u77 u78 : Value)
    (hk : k < sh.size) (hkl : sh.size ≤ 1000000) (hcl : isLetter c) (hc : sh.data.toList.getD k 0 = c) (hS : SizesAt w) (hR : RdAt w b rest 0) (hO : ItemsAt w ok outv out) (hb : ¬ ok b) (hok : ∀ i, w.heap.size ≤ i → ok i) (hn : out.length ≤ 1000) (hrl : rest.length ≤ 1000000000)
    (hQ : out.length < 1000 → (readItem c rest).2.2 = 0 → ∀ w' v' u2 u3 u4 u5 u10 u11 u12 u13 u14 u15 u16 u17 u18 u19 u20 u21 u22 u23 u24 u25 u26 u27 u28 u29 u30 u31 u32 u33 u34 u35 u36 u37 u38 u39 u40 u41 u42 u43 u44 u45 u46 u47 u48 u49 u50 u51 u52 u53 u54 u55 u56 u57 u58 u59 u60 u61 u62 u63 u64 u65 u66 u67 u68 u69 u70 u71 u72 u73 u74 u75 u76 u77 u78, RdAt w' b (readItem c rest).2.1 0 → ItemsAt w' ok v' (out ++ [(readItem c rest).1]) → Turned (fun i => i = b ∨ outv.ownBlock = some i) w w' →
      Q (.goto 0) ⟨#[.string sh, .string s, u2, u3, u4, u5, star, .pointer (some ⟨b, 0, none⟩), v', .int .i64 ((k : Int) + 1), u10, u11, u12, u13, u14, u15, u16, u17, u18, u19, u20, u21, u22, u23, u24, u25, u26, u27, u28, u29, u30, u31, u32, u33, u34, u35, u36, u37, u38, u39, u40, u41, u42, u43, u44, u45, u46, u47, u48, u49, u50, u51, u52, u53, u54, u55, u56, u57, u58, u59, u60, u61, u62, u63, u64, u65, u66, u67, u68, u69, u70, u71, u72, u73, u74, u75, u76, u77, u78], []⟩ w')
    (hE : (out.length = 1000 ∨ (readItem c rest).2.2 ≠ 0) → ∀ w' e u0 u1 u2 u3 u6 u7 u8 u9 u10 u11 u12 u13 u14 u15 u16 u17 u18 u19 u20 u21 u22 u23 u24 u25 u26 u27 u28 u29 u30 u31 u32 u33 u34 u35 u36 u37 u38 u39 u40 u41 u42 u43 u44 u45 u46 u47 u48 u49 u50 u51 u52 u53 u54 u55 u56 u57 u58 u59 u60 u61 u62 u63 u64 u65 u66 u67 u68 u69 u70 u71 u72 u73 u74 u75 u76 u77 u78, e = (if out.length = 1000 then 3 else (readItem c rest).2.2) → Turned (fun i => i = b) w w' → Q .ret ⟨#[u0, u1, u2, u3, .slice none 0 0, .int .i64 e, u6, u7, u8, u9, u10, u11, u12, u13, u14, u15, u16, u17, u18, u19, u20, u21, u22, u23, u24, u25, u26, u27, u28, u29, u30, u31, u32, u33, u34, u35, u36, u37, u38, u39, u40, u41, u42, u43, u44, u45, u46, u47, u48, u49, u50, u51, u52, u53, u54, u55, u56, u57, u58, u59, u60, u61, u62, u63, u64, u65, u66, u67, u68, u69, u70, u71, u72, u73, u74, u75, u76, u77, u78], []⟩ w') :
    TailWp Q ⟨#[.string sh, .string s, u2, u3, u4, u5, star, .pointer (some ⟨b, 0, none⟩), outv, .int .i64 k, u10, u11, u12, u13, u14, u15, u16, u17, u18, u19, u20, u21, u22, u23, u24, u25, u26, u27, u28, u29, u30, u31, u32, u33, u34, u35, u36, u37, u38, u39, u40, u41, u42, u43, u44, u45, u46, u47, u48, u49, u50, u51, u52, u53, u54, u55, u56, u57, u58, u59, u60, u61, u62, u63, u64, u65, u66, u67, u68, u69, u70, u71, u72, u73, u74, u75, u76, u77, u78], []⟩ w := by
  by_cases hf : out.length = 1000
  · have hE' := hE (.inl hf)
    rw [if_pos hf] at hE'
    exact tail_full w sh s star b k c out outv Q ok _ _ _ _ _ _ _ _ _ _ _ _ _ _ _ _ _ _ _ _ _ _ _ _ _ _ _ _ _ _ _ _ _ _ _ _ _ _ _ _ _ _ _ _ _ _ _ _ _ _ _ _ _ _ _ _ _ _ _ _ _ _ _ _ _ _ _ _ _ _ _ _ _ hk hkl hcl hc hO hf hE'
  · rw [if_neg hf] at hE
    have hn' : out.length < 1000 := by omega
    have hQ' := hQ hn'
    rcases hcl with rfl | rfl | rfl | rfl
    · have hrd : readItem 98 rest = if rest.length < 1 then (⟨1, 0, ⟨#[]⟩⟩, rest, 2) else (⟨1, ((valL (rest.take 1) : Nat) : Int), ⟨#[]⟩⟩, rest.drop 1, 0) := rfl
      rw [hrd] at hQ' hE
      refine tail_num_b w sh s star b k rest out outv Q ok _ _ _ _ _ _ _ _ _ _ _ _ _ _ _ _ _ _ _ _ _ _ _ _ _ _ _ _ _ _ _ _ _ _ _ _ _ _ _ _ _ _ _ _ _ _ _ _ _ _ _ _ _ _ _ _ _ _ _ _ _ _ _ _ _ _ _ _ _ _ _ _ _ hk hkl hc hS hR hO hb hok hn' hrl (fun h => ?_) (fun h => ?_)
      · rw [if_neg h] at hQ'; exact hQ' rfl
      · rw [if_pos h] at hE; exact hE (.inr (by simp))
    · have hrd : readItem 119 rest = if rest.length < 4 then (⟨2, 0, ⟨#[]⟩⟩, rest, 2) else (⟨2, ((valL (rest.take 4) : Nat) : Int), ⟨#[]⟩⟩, rest.drop 4, 0) := rfl
      rw [hrd] at hQ' hE
      refine tail_num_w w sh s star b k rest out outv Q ok _ _ _ _ _ _ _ _ _ _ _ _ _ _ _ _ _ _ _ _ _ _ _ _ _ _ _ _ _ _ _ _ _ _ _ _ _ _ _ _ _ _ _ _ _ _ _ _ _ _ _ _ _ _ _ _ _ _ _ _ _ _ _ _ _ _ _ _ _ _ _ _ _ hk hkl hc hS hR hO hb hok hn' hrl (fun h => ?_) (fun h => ?_)
      · rw [if_neg h] at hQ'; exact hQ' rfl
      · rw [if_pos h] at hE; exact hE (.inr (by simp))
    · have hrd : readItem 108 rest = if rest.length < 8 then (⟨3, 0, ⟨#[]⟩⟩, rest, 2) else (⟨3, ((valL (rest.take 8) : Nat) : Int), ⟨#[]⟩⟩, rest.drop 8, 0) := rfl
      rw [hrd] at hQ' hE
      refine tail_num_l w sh s star b k rest out outv Q ok _ _ _ _ _ _ _ _ _ _ _ _ _ _ _ _ _ _ _ _ _ _ _ _ _ _ _ _ _ _ _ _ _ _ _ _ _ _ _ _ _ _ _ _ _ _ _ _ _ _ _ _ _ _ _ _ _ _ _ _ _ _ _ _ _ _ _ _ _ _ _ _ _ hk hkl hc hS hR hO hb hok hn' hrl (fun h => ?_) (fun h => ?_)
      · rw [if_neg h] at hQ'; exact hQ' rfl
      · rw [if_pos h] at hE; exact hE (.inr (by simp))
    · have hrd : readItem 116 rest = (⟨4, 0, strB (textL rest).1⟩, (textL rest).2.1, (textL rest).2.2) := rfl
      rw [hrd] at hQ' hE
      exact tail_text w sh s star b k rest out outv Q ok _ _ _ _ _ _ _ _ _ _ _ _ _ _ _ _ _ _ _ _ _ _ _ _ _ _ _ _ _ _ _ _ _ _ _ _ _ _ _ _ _ _ _ _ _ _ _ _ _ _ _ _ _ _ _ _ _ _ _ _ _ _ _ _ _ _ _ _ _ _ _ _ _ hk hkl hc hR hO hb hok hn' hrl hQ' (fun h => hE (.inr h))
end Go.Proofs.YtdbnanniboiooaaDoor
namespace Go.Proofs.Carillon
theorem gen_tail {P : Program} {X Y T : Code} {Q : Exit → Act → World → Prop} {a : Act} {w : World} (h : ∀ T', T' = T → Code.wp P (.seq X (.seq Y T')) Q a w) : Code.wp P (.seq X (.seq Y T)) Q a w := h T rfl
end Go.Proofs.Carillon
namespace Go.Proofs.YtdbnanniboiooaaDoor
open Go.RowKit Go.Proofs.Carillon Go.Proofs.YtdbnanniboiooaaDoorW.PrintWords Go.Lib Go.Shelf

set_option maxRecDepth 100000 in
set_option maxHeartbeats 4000000 in
/-- In the midst of a shape. -/
theorem pass_mid (w : World) (sh s : ByteArray) (H b k : Nat) (outv : Value) (Q : Exit → Act → World → Prop)
    (u2 u3 u4 u5 u10 u11 u12 u13 u14 u15 u16 u17 u18 u19 u20 u21 u22 u23 u24 u25 u26 u27 u28 u29 u30 u31 u32 u33 u34 u35 u36 u37 u38 u39 u40 u41 u42 u43 u44 u45 u46 u47 u48 u49 u50 u51 u52 u53 u54 u55 u56 u57 u58 u59 u60 u61 u62 u63 u64 u65 u66 u67 u68 u69 u70 u71 u72 u73 u74 u75 u76 u77 u78 : Value) (hk : k < sh.size) (_hkl : sh.size ≤ 1000000) (hH : k ≠ H)
    (hQ : ∀ u2 u3 u4 u5 u10 u11 u12 u13 u14 u15 u16 u17 u18 u19 u20 u21 u22 u23 u24 u25 u26 u27 u28 u29 u30 u31 u32 u33 u34 u35 u36 u37 u38 u39 u40 u41 u42 u43 u44 u45 u46 u47 u48 u49 u50 u51 u52 u53 u54 u55 u56 u57 u58 u59 u60 u61 u62 u63 u64 u65 u66 u67 u68 u69 u70 u71 u72 u73 u74 u75 u76 u77 u78, TailWp Q ⟨#[.string sh, .string s, u2, u3, u4, u5, .int .i64 H, .pointer (some ⟨b, 0, none⟩), outv, .int .i64 k, u10, u11, u12, u13, u14, u15, u16, u17, u18, u19, u20, u21, u22, u23, u24, u25, u26, u27, u28, u29, u30, u31, u32, u33, u34, u35, u36, u37, u38, u39, u40, u41, u42, u43, u44, u45, u46, u47, u48, u49, u50, u51, u52, u53, u54, u55, u56, u57, u58, u59, u60, u61, u62, u63, u64, u65, u66, u67, u68, u69, u70, u71, u72, u73, u74, u75, u76, u77, u78], []⟩ w) :
    PassWp Q ⟨#[.string sh, .string s, u2, u3, u4, u5, .int .i64 H, .pointer (some ⟨b, 0, none⟩), outv, .int .i64 k, u10, u11, u12, u13, u14, u15, u16, u17, u18, u19, u20, u21, u22, u23, u24, u25, u26, u27, u28, u29, u30, u31, u32, u33, u34, u35, u36, u37, u38, u39, u40, u41, u42, u43, u44, u45, u46, u47, u48, u49, u50, u51, u52, u53, u54, u55, u56, u57, u58, u59, u60, u61, u62, u63, u64, u65, u66, u67, u68, u69, u70, u71, u72, u73, u74, u75, u76, u77, u78], []⟩ w := by
  have h1 : ((k : Int) == (sh.size : Int)) = false := by rw [beq_eq_false_iff_ne]; omega
  have h2 : ((k : Int) == (H : Int)) = false := by rw [beq_eq_false_iff_ne]; omega
  have HQ := Lib.hid hQ
  clear hQ hH
  unfold PassWp Tryd.f56
  simp only [seqB, unscope, Option.getD]
  refine gen_tail ?_
  intro T hT
  have HT := Lib.hid hT
  clear hT
  go_wp2
  rw [HT.out]
  exact HQ.out _ _ _ _ _ _ _ _ _ _ _ _ _ _ _ _ _ _ _ _ _ _ _ _ _ _ _ _ _ _ _ _ _ _ _ _ _ _ _ _ _ _ _ _ _ _ _ _ _ _ _ _ _ _ _ _ _ _ _ _ _ _ _ _ _ _ _ _ _ _ _ _ _

set_option maxRecDepth 100000 in
set_option maxHeartbeats 4000000 in
/-- At the star, or at the end: nothing is left. -/
theorem pass_done (w : World) (sh s : ByteArray) (H b k : Nat) (outv : Value) (Q : Exit → Act → World → Prop)
    (u2 u3 u4 u5 u10 u11 u12 u13 u14 u15 u16 u17 u18 u19 u20 u21 u22 u23 u24 u25 u26 u27 u28 u29 u30 u31 u32 u33 u34 u35 u36 u37 u38 u39 u40 u41 u42 u43 u44 u45 u46 u47 u48 u49 u50 u51 u52 u53 u54 u55 u56 u57 u58 u59 u60 u61 u62 u63 u64 u65 u66 u67 u68 u69 u70 u71 u72 u73 u74 u75 u76 u77 u78 : Value) (hk : k = H ∨ k = sh.size) (hHl : H < sh.size) (_hkl : sh.size ≤ 1000000) (hR : RdAt w b [] 0)
    (hQ : ∀ u0 u1 u2 u3 u6 u7 u8 u9 u10 u11 u12 u13 u14 u15 u16 u17 u18 u19 u20 u21 u22 u23 u24 u25 u26 u27 u28 u29 u30 u31 u32 u33 u34 u35 u36 u37 u38 u39 u40 u41 u42 u43 u44 u45 u46 u47 u48 u49 u50 u51 u52 u53 u54 u55 u56 u57 u58 u59 u60 u61 u62 u63 u64 u65 u66 u67 u68 u69 u70 u71 u72 u73 u74 u75 u76 u77 u78, Q .ret ⟨#[u0, u1, u2, u3, outv, .int .i64 0, u6, u7, u8, u9, u10, u11, u12, u13, u14, u15, u16, u17, u18, u19, u20, u21, u22, u23, u24, u25, u26, u27, u28, u29, u30, u31, u32, u33, u34, u35, u36, u37, u38, u39, u40, u41, u42, u43, u44, u45, u46, u47, u48, u49, u50, u51, u52, u53, u54, u55, u56, u57, u58, u59, u60, u61, u62, u63, u64, u65, u66, u67, u68, u69, u70, u71, u72, u73, u74, u75, u76, u77, u78], []⟩ w) :
    PassWp Q ⟨#[.string sh, .string s, u2, u3, u4, u5, .int .i64 H, .pointer (some ⟨b, 0, none⟩), outv, .int .i64 k, u10, u11, u12, u13, u14, u15, u16, u17, u18, u19, u20, u21, u22, u23, u24, u25, u26, u27, u28, u29, u30, u31, u32, u33, u34, u35, u36, u37, u38, u39, u40, u41, u42, u43, u44, u45, u46, u47, u48, u49, u50, u51, u52, u53, u54, u55, u56, u57, u58, u59, u60, u61, u62, u63, u64, u65, u66, u67, u68, u69, u70, u71, u72, u73, u74, u75, u76, u77, u78], []⟩ w := by
  have c0 : w.cell? ⟨b, 0, none⟩ = some (.string ⟨#[]⟩) := cell_blk (j := 0) hR rfl
  have HQ := Lib.hid hQ
  clear hQ hR
  rcases hk with rfl | rfl
  all_goals
    unfold PassWp Tryd.f56
    simp only [seqB, unscope, Option.getD]
    refine gen_tail ?_
    intro T hT
    have HT := Lib.hid hT
    clear hT
    go_wp2
    exact HQ.out _ _ _ _ _ _ _ _ _ _ _ _ _ _ _ _ _ _ _ _ _ _ _ _ _ _ _ _ _ _ _ _ _ _ _ _ _ _ _ _ _ _ _ _ _ _ _ _ _ _ _ _ _ _ _ _ _ _ _ _ _ _ _ _ _ _ _ _ _ _ _ _ _ _ _ _ _

set_option maxRecDepth 100000 in
set_option maxHeartbeats 4000000 in
/-- At the star, or at the end: something is left. -/
theorem pass_again (w : World) (sh s : ByteArray) (H b k : Nat) (rest : List UInt8) (outv : Value) (Q : Exit → Act → World → Prop)
    (u2 u3 u4 u5 u10 u11 u12 u13 u14 u15 u16 u17 u18 u19 u20 u21 u22 u23 u24 u25 u26 u27 u28 u29 u30 u31 u32 u33 u34 u35 u36 u37 u38 u39 u40 u41 u42 u43 u44 u45 u46 u47 u48 u49 u50 u51 u52 u53 u54 u55 u56 u57 u58 u59 u60 u61 u62 u63 u64 u65 u66 u67 u68 u69 u70 u71 u72 u73 u74 u75 u76 u77 u78 : Value) (hk : k = H ∨ k = sh.size) (hHl : H < sh.size) (hkl : sh.size ≤ 1000000) (hR : RdAt w b rest 0) (hr : rest ≠ [])
    (hQ : ∀ u2 u3 u4 u5 u10 u11 u12 u13 u14 u15 u16 u17 u18 u19 u20 u21 u22 u23 u24 u25 u26 u27 u28 u29 u30 u31 u32 u33 u34 u35 u36 u37 u38 u39 u40 u41 u42 u43 u44 u45 u46 u47 u48 u49 u50 u51 u52 u53 u54 u55 u56 u57 u58 u59 u60 u61 u62 u63 u64 u65 u66 u67 u68 u69 u70 u71 u72 u73 u74 u75 u76 u77 u78, TailWp Q ⟨#[.string sh, .string s, u2, u3, u4, u5, .int .i64 H, .pointer (some ⟨b, 0, none⟩), outv, .int .i64 ((H + 1 : Nat) : Int), u10, u11, u12, u13, u14, u15, u16, u17, u18, u19, u20, u21, u22, u23, u24, u25, u26, u27, u28, u29, u30, u31, u32, u33, u34, u35, u36, u37, u38, u39, u40, u41, u42, u43, u44, u45, u46, u47, u48, u49, u50, u51, u52, u53, u54, u55, u56, u57, u58, u59, u60, u61, u62, u63, u64, u65, u66, u67, u68, u69, u70, u71, u72, u73, u74, u75, u76, u77, u78], []⟩ w) :
    PassWp Q ⟨#[.string sh, .string s, u2, u3, u4, u5, .int .i64 H, .pointer (some ⟨b, 0, none⟩), outv, .int .i64 k, u10, u11, u12, u13, u14, u15, u16, u17, u18, u19, u20, u21, u22, u23, u24, u25, u26, u27, u28, u29, u30, u31, u32, u33, u34, u35, u36, u37, u38, u39, u40, u41, u42, u43, u44, u45, u46, u47, u48, u49, u50, u51, u52, u53, u54, u55, u56, u57, u58, u59, u60, u61, u62, u63, u64, u65, u66, u67, u68, u69, u70, u71, u72, u73, u74, u75, u76, u77, u78], []⟩ w := by
  obtain ⟨S, hS⟩ : ∃ S, strB rest = S := ⟨_, rfl⟩
  have c0 : w.cell? ⟨b, 0, none⟩ = some (.string S) := hS ▸ cell_blk (j := 0) hR rfl
  have hz : S.toList.isEmpty = false := nonempty_toList (by rw [← hS, strB_size]; exact fun e => hr (List.eq_nil_of_length_eq_zero e))
  have HQ := Lib.hid hQ
  clear hQ hR hS hr
  rcases hk with rfl | rfl
  all_goals
    unfold PassWp Tryd.f56
    simp only [seqB, unscope, Option.getD]
    refine gen_tail ?_
    intro T hT
    have HT := Lib.hid hT
    clear hT
    go_wp2
    rw [HT.out]; exact HQ.out _ _ _ _ _ _ _ _ _ _ _ _ _ _ _ _ _ _ _ _ _ _ _ _ _ _ _ _ _ _ _ _ _ _ _ _ _ _ _ _ _ _ _ _ _ _ _ _ _ _ _ _ _ _ _ _ _ _ _ _ _ _ _ _ _ _ _ _ _ _ _ _ _
end Go.Proofs.YtdbnanniboiooaaDoor
namespace Go.Proofs.Carillon
/-- What Decode makes: the round's letters t, how many items may come yet, the letters that are left, the bytes that are left, the items. -/
def decGo (t : List UInt8) : Nat → List UInt8 → List UInt8 → List Itm → List Itm × Int
  | n, cs, rest, out => if cs = [] ∧ rest = [] then (out, 0) else
    match (if cs = [] then t else cs) with
    | [] => ([], 0)
    | c :: cs' => match n with
      | 0 => ([], 3)
      | n + 1 => if (readItem c rest).2.2 = 0 then decGo t n cs' (readItem c rest).2.1 (out ++ [(readItem c rest).1]) else ([], (readItem c rest).2.2)
/-- Where in the shape the letters cs are what is left ahead of the star or the end. -/
def Cs (h t : List UInt8) (k : Nat) (cs : List UInt8) : Prop := (k ≤ h.length ∧ cs = h.drop k) ∨ (h.length < k ∧ k ≤ h.length + 1 + t.length ∧ cs = t.drop (k - (h.length + 1)))
theorem Cs.none {h t : List UInt8} {k : Nat} (c : Cs h t k []) : k = h.length ∨ k = h.length + 1 + t.length := by
  rcases c with ⟨h1, h2⟩ | ⟨h1, h2, h3⟩
  · have := congrArg List.length h2; rw [List.length_drop, List.length_nil] at this; omega
  · have := congrArg List.length h3; rw [List.length_drop, List.length_nil] at this; omega
theorem drop_cons {l cs : List UInt8} {k : Nat} {c : UInt8} (h : c :: cs = l.drop k) : k < l.length ∧ l[k]? = some c ∧ cs = l.drop (k + 1) := by
  have hk : k < l.length := by have := congrArg List.length h; rw [List.length_drop, List.length_cons] at this; omega
  rw [List.drop_eq_getElem_cons hk] at h
  injection h with h1 h2
  exact ⟨hk, by rw [List.getElem?_eq_getElem hk, h1], h2⟩
theorem Cs.some {h t cs : List UInt8} {k : Nat} {c : UInt8} (C : Cs h t k (c :: cs)) : k < h.length + 1 + t.length ∧ k ≠ h.length ∧ (h ++ 42 :: t).getD k 0 = c ∧ Cs h t (k + 1) cs ∧ (c ∈ h ∨ c ∈ t) := by
  rcases C with ⟨h1, h2⟩ | ⟨h1, h2, h3⟩
  · obtain ⟨a, b, d⟩ := drop_cons h2
    refine ⟨by omega, by omega, ?_, .inl ⟨by omega, d⟩, .inl (List.mem_of_getElem? b)⟩
    rw [List.getD_eq_getElem?_getD, List.getElem?_append_left a, b]; rfl
  · obtain ⟨a, b, d⟩ := drop_cons h3
    refine ⟨by omega, by omega, ?_, .inr ⟨by omega, by omega, ?_⟩, .inr (List.mem_of_getElem? b)⟩
    · obtain ⟨j, rfl⟩ : ∃ j, k = h.length + 1 + j := ⟨k - (h.length + 1), by omega⟩
      rw [List.getD_eq_getElem?_getD, List.getElem?_append_right (by omega), show h.length + 1 + j - h.length = j + 1 by omega, List.getElem?_cons_succ]
      rw [show h.length + 1 + j - (h.length + 1) = j by omega] at b
      rw [b]; rfl
    · rw [d]; congr 1; omega
theorem Cs.round {h t : List UInt8} {c : UInt8} {cs : List UInt8} (ht : t = c :: cs) : (h ++ 42 :: t).getD (h.length + 1) 0 = c ∧ Cs h t (h.length + 1 + 1) cs ∧ h.length + 1 < h.length + 1 + t.length ∧ c ∈ t := by
  subst ht
  refine ⟨?_, .inr ⟨by omega, by rw [List.length_cons]; omega, ?_⟩, by rw [List.length_cons]; omega, List.mem_cons_self⟩
  · rw [List.getD_eq_getElem?_getD, List.getElem?_append_right (by omega), show h.length + 1 - h.length = 0 + 1 by omega]; rfl
  · rw [show h.length + 1 + 1 - (h.length + 1) = 0 + 1 by omega]; rfl
theorem decGo_done (t : List UInt8) (n : Nat) (out : List Itm) : decGo t n [] [] out = (out, 0) := by
  unfold decGo; rw [if_pos ⟨rfl, rfl⟩]
theorem decGo_step (t : List UInt8) (n : Nat) (cs rest : List UInt8) (out : List Itm) (c : UInt8) (cs' : List UInt8) (h : ¬ (cs = [] ∧ rest = [])) (hc : (if cs = [] then t else cs) = c :: cs') :
    decGo t n cs rest out = match n with
      | 0 => ([], 3)
      | n + 1 => if (readItem c rest).2.2 = 0 then decGo t n cs' (readItem c rest).2.1 (out ++ [(readItem c rest).1]) else ([], (readItem c rest).2.2) := by
  conv => lhs; unfold decGo
  rw [if_neg h, hc]
theorem textL_le (l : List UInt8) : (textL l).2.1.length ≤ l.length := by
  unfold textL
  split
  · exact Nat.le_refl _
  · split
    · rw [List.length_drop]; omega
    · split
      · rw [List.length_drop]; omega
      · simp only [List.length_drop]; omega
theorem readItem_le (c : UInt8) (l : List UInt8) : (readItem c l).2.1.length ≤ l.length := by
  unfold readItem
  split
  · exact textL_le l
  · split
    · exact Nat.le_refl _
    · simp only [List.length_drop]; omega
def lenOf : Value → Nat | .slice _ n _ => n | _ => 0
end Go.Proofs.Carillon
namespace Go.Proofs.YtdbnanniboiooaaDoor
open Go.RowKit Go.Proofs.Carillon Go.Proofs.YtdbnanniboiooaaDoorW.PrintWords Go.Lib Go.Shelf

structure DecRel (w0 : World) (b : Nat) (h t : List UInt8) (R : List Itm × Int) (k : Nat) (cs rest : List UInt8) (out : List Itm) (outv : Value) (w : World) : Prop where
  hcs : Cs h t k cs
  go : decGo t (1000 - out.length) cs rest out = R
  len : out.length ≤ 1000
  hrest : rest.length ≤ 1000000000
  rd : RdAt w b rest 0
  its : ItemsAt w (fun i => w0.heap.size ≤ i ∧ i ≠ b) outv out
  below : Below w0.heap.size w0 w

def DecJ (w0 : World) (b : Nat) (h t s : List UInt8) (R : List Itm × Int) (a : Act) (w : World) : Prop :=
  ∃ (k : Nat) (cs rest : List UInt8) (out : List Itm) (outv u2 u3 u4 u5 u10 u11 u12 u13 u14 u15 u16 u17 u18 u19 u20 u21 u22 u23 u24 u25 u26 u27 u28 u29 u30 u31 u32 u33 u34 u35 u36 u37 u38 u39 u40 u41 u42 u43 u44 u45 u46 u47 u48 u49 u50 u51 u52 u53 u54 u55 u56 u57 u58 u59 u60 u61 u62 u63 u64 u65 u66 u67 u68 u69 u70 u71 u72 u73 u74 u75 u76 u77 u78 : Value),
    a = ⟨#[.string (strB (h ++ 42 :: t)), .string (strB s), u2, u3, u4, u5, .int .i64 h.length, .pointer (some ⟨b, 0, none⟩), outv, .int .i64 k, u10, u11, u12, u13, u14, u15, u16, u17, u18, u19, u20, u21, u22, u23, u24, u25, u26, u27, u28, u29, u30, u31, u32, u33, u34, u35, u36, u37, u38, u39, u40, u41, u42, u43, u44, u45, u46, u47, u48, u49, u50, u51, u52, u53, u54, u55, u56, u57, u58, u59, u60, u61, u62, u63, u64, u65, u66, u67, u68, u69, u70, u71, u72, u73, u74, u75, u76, u77, u78], []⟩ ∧ DecRel w0 b h t R k cs rest out outv w

def DecX (w0 : World) (h t s : List UInt8) (R : List Itm × Int) (a : Act) (w : World) : Prop := ∃ b, w0.heap.size ≤ b ∧ DecJ w0 b h t s R a w

def decMu (a : Act) (_ : World) : Nat := 1000 - lenOf (a.tmps.getD 8 undef)

theorem its_len {w : World} {ok : Nat → Prop} {v : Value} {l : List Itm} (h : ItemsAt w ok v l) : lenOf v = l.length := by
  obtain ⟨A, c, rfl⟩ := Kd.R_slice h; rfl

theorem tail_step (w0 w : World) (b : Nat) (h t s : List UInt8) (R : List Itm × Int) (k : Nat) (c : UInt8) (cs rest : List UInt8) (out : List Itm) (outv : Value) (Q0 : Exit → Act → World → Prop) (hb : w0.heap.size ≤ b) (hS : SizesAt w0)
    (hl : h.length + t.length ≤ 100000) (hk : k < h.length + 1 + t.length) (hc : (h ++ 42 :: t).getD k 0 = c) (hcl : isLetter c) (hcs : Cs h t (k + 1) cs)
    (hR : (if out.length = 1000 then ([], 3) else if (readItem c rest).2.2 = 0 then decGo t (1000 - (out.length + 1)) cs (readItem c rest).2.1 (out ++ [(readItem c rest).1]) else ([], (readItem c rest).2.2)) = R)
    (hlen : out.length ≤ 1000) (hrest : rest.length ≤ 1000000000) (hrd : RdAt w b rest 0) (hits : ItemsAt w (fun i => w0.heap.size ≤ i ∧ i ≠ b) outv out) (hbel : Below w0.heap.size w0 w)
    (hret : ∀ w' v u0 u1 u2 u3 u6 u7 u8 u9 u10 u11 u12 u13 u14 u15 u16 u17 u18 u19 u20 u21 u22 u23 u24 u25 u26 u27 u28 u29 u30 u31 u32 u33 u34 u35 u36 u37 u38 u39 u40 u41 u42 u43 u44 u45 u46 u47 u48 u49 u50 u51 u52 u53 u54 u55 u56 u57 u58 u59 u60 u61 u62 u63 u64 u65 u66 u67 u68 u69 u70 u71 u72 u73 u74 u75 u76 u77 u78, ItemsAt w' (fun i => w0.heap.size ≤ i) v R.1 → Below w0.heap.size w0 w' → Q0 .ret ⟨#[u0, u1, u2, u3, v, .int .i64 R.2, u6, u7, u8, u9, u10, u11, u12, u13, u14, u15, u16, u17, u18, u19, u20, u21, u22, u23, u24, u25, u26, u27, u28, u29, u30, u31, u32, u33, u34, u35, u36, u37, u38, u39, u40, u41, u42, u43, u44, u45, u46, u47, u48, u49, u50, u51, u52, u53, u54, u55, u56, u57, u58, u59, u60, u61, u62, u63, u64, u65, u66, u67, u68, u69, u70, u71, u72, u73, u74, u75, u76, u77, u78], []⟩ w') (u2 u3 u4 u5 u10 u11 u12 u13 u14 u15 u16 u17 u18 u19 u20 u21 u22 u23 u24 u25 u26 u27 u28 u29 u30 u31 u32 u33 u34 u35 u36 u37 u38 u39 u40 u41 u42 u43 u44 u45 u46 u47 u48 u49 u50 u51 u52 u53 u54 u55 u56 u57 u58 u59 u60 u61 u62 u63 u64 u65 u66 u67 u68 u69 u70 u71 u72 u73 u74 u75 u76 u77 u78 : Value) (mu : Nat) (hmu : mu = 1000 - out.length) :
    TailWp (Exit.jump 0 (fun a' w' => DecX w0 h t s R a' w' ∧ decMu a' w' < mu) Q0) ⟨#[.string (strB (h ++ 42 :: t)), .string (strB s), u2, u3, u4, u5, .int .i64 h.length, .pointer (some ⟨b, 0, none⟩), outv, .int .i64 k, u10, u11, u12, u13, u14, u15, u16, u17, u18, u19, u20, u21, u22, u23, u24, u25, u26, u27, u28, u29, u30, u31, u32, u33, u34, u35, u36, u37, u38, u39, u40, u41, u42, u43, u44, u45, u46, u47, u48, u49, u50, u51, u52, u53, u54, u55, u56, u57, u58, u59, u60, u61, u62, u63, u64, u65, u66, u67, u68, u69, u70, u71, u72, u73, u74, u75, u76, u77, u78], []⟩ w := by
  have hsz : (strB (h ++ 42 :: t)).size = h.length + 1 + t.length := by rw [strB_size, List.length_append, List.length_cons]; omega
  have hbw := blk_lt hrd
  refine tail_any w (strB (h ++ 42 :: t)) (strB s) (.int .i64 h.length) b k c rest out outv _ (fun i => w0.heap.size ≤ i ∧ i ≠ b) _ _ _ _ _ _ _ _ _ _ _ _ _ _ _ _ _ _ _ _ _ _ _ _ _ _ _ _ _ _ _ _ _ _ _ _ _ _ _ _ _ _ _ _ _ _ _ _ _ _ _ _ _ _ _ _ _ _ _ _ _ _ _ _ _ _ _ _ _ _ _ _ _ (by omega) (by omega) hcl (by rw [strB_list]; exact hc) (hS.below hbel) hrd hits (fun h => h.2 rfl) (fun i hi => ⟨Nat.le_trans hbel.size hi, by omega⟩) hlen hrest ?_ ?_
  · intro hn he w' v' u2 u3 u4 u5 u10 u11 u12 u13 u14 u15 u16 u17 u18 u19 u20 u21 u22 u23 u24 u25 u26 u27 u28 u29 u30 u31 u32 u33 u34 u35 u36 u37 u38 u39 u40 u41 u42 u43 u44 u45 u46 u47 u48 u49 u50 u51 u52 u53 u54 u55 u56 u57 u58 u59 u60 u61 u62 u63 u64 u65 u66 u67 u68 u69 u70 u71 u72 u73 u74 u75 u76 u77 u78 hrd' hits' ht'
    rw [if_neg (by omega), if_pos he] at hR
    refine ⟨rfl, ⟨b, hb, k + 1, cs, _, _, v', _, _, _, _, _, _, _, _, _, _, _, _, _, _, _, _, _, _, _, _, _, _, _, _, _, _, _, _, _, _, _, _, _, _, _, _, _, _, _, _, _, _, _, _, _, _, _, _, _, _, _, _, _, _, _, _, _, _, _, _, _, _, _, _, _, _, _, _, _, _, _, _, _, rfl, hcs, ?_, ?_, Nat.le_trans (readItem_le c rest) hrest, hrd', hits', ?_⟩, ?_⟩
    · rw [List.length_append, List.length_singleton]; exact hR
    · rw [List.length_append, List.length_singleton]; omega
    · exact ((Turned.of_below hbel).trans ht' (fun i hi => hi.elim (fun e => .inr (by omega)) (fun e => .inr (hits.1 _ e).1)) : Turned (fun _ => False) w0 w').below
    · show 1000 - lenOf v' < mu
      rw [its_len hits', List.length_append, List.length_singleton]; omega
  · intro hn w' e u0 u1 u2 u3 u6 u7 u8 u9 u10 u11 u12 u13 u14 u15 u16 u17 u18 u19 u20 u21 u22 u23 u24 u25 u26 u27 u28 u29 u30 u31 u32 u33 u34 u35 u36 u37 u38 u39 u40 u41 u42 u43 u44 u45 u46 u47 u48 u49 u50 u51 u52 u53 u54 u55 u56 u57 u58 u59 u60 u61 u62 u63 u64 u65 u66 u67 u68 u69 u70 u71 u72 u73 u74 u75 u76 u77 u78 he ht'
    have hR' : R = ([], e) := by
      rw [← hR, he]
      by_cases hf : out.length = 1000
      · rw [if_pos hf, if_pos hf]
      · rw [if_neg hf, if_neg (hn.resolve_left hf), if_neg hf]
    have := hret w' (.slice none 0 0) u0 u1 u2 u3 u6 u7 u8 u9 u10 u11 u12 u13 u14 u15 u16 u17 u18 u19 u20 u21 u22 u23 u24 u25 u26 u27 u28 u29 u30 u31 u32 u33 u34 u35 u36 u37 u38 u39 u40 u41 u42 u43 u44 u45 u46 u47 u48 u49 u50 u51 u52 u53 u54 u55 u56 u57 u58 u59 u60 u61 u62 u63 u64 u65 u66 u67 u68 u69 u70 u71 u72 u73 u74 u75 u76 u77 u78
    rw [hR'] at this
    exact this (Kd.R_nil ..) ((Turned.of_below hbel).trans ht' (fun i hi => .inr (by omega)) : Turned (fun _ => False) w0 w').below
end Go.Proofs.YtdbnanniboiooaaDoor
namespace Go.Proofs.Carillon
theorem gen_last {P : Program} {A B C D E L T : Code} {Q : Exit → Act → World → Prop} {a : Act} {w : World} (h : ∀ T', T' = T → Code.wp P (.seq A (.seq B (.seq C (.seq D (.seq E (.seq L T')))))) Q a w) : Code.wp P (.seq A (.seq B (.seq C (.seq D (.seq E (.seq L T)))))) Q a w := h T rfl
theorem wp_skip_seq {P : Program} {T : Code} {Q : Exit → Act → World → Prop} {a : Act} {w : World} (h : Code.wp P T Q a w) : Code.wp P (.seq .skip T) Q a w := by
  apply wp_seq_k
  intro K hK
  apply wp_skip
  exact hK _ _ h
end Go.Proofs.Carillon
namespace Go.Proofs.YtdbnanniboiooaaDoor
open Go.RowKit Go.Proofs.Carillon Go.Proofs.YtdbnanniboiooaaDoorW.PrintWords Go.Lib Go.Shelf

theorem pass_any (w0 : World) (b : Nat) (h t s : List UInt8) (R : List Itm × Int) (Q0 : Exit → Act → World → Prop) (hb : w0.heap.size ≤ b) (hS : SizesAt w0) (hl : h.length + t.length ≤ 100000) (hh : ∀ c ∈ h, isLetter c) (ht : ∀ c ∈ t, isLetter c) (hne : t ≠ [])
    (hret : ∀ w' v u0 u1 u2 u3 u6 u7 u8 u9 u10 u11 u12 u13 u14 u15 u16 u17 u18 u19 u20 u21 u22 u23 u24 u25 u26 u27 u28 u29 u30 u31 u32 u33 u34 u35 u36 u37 u38 u39 u40 u41 u42 u43 u44 u45 u46 u47 u48 u49 u50 u51 u52 u53 u54 u55 u56 u57 u58 u59 u60 u61 u62 u63 u64 u65 u66 u67 u68 u69 u70 u71 u72 u73 u74 u75 u76 u77 u78, ItemsAt w' (fun i => w0.heap.size ≤ i) v R.1 → Below w0.heap.size w0 w' → Q0 .ret ⟨#[u0, u1, u2, u3, v, .int .i64 R.2, u6, u7, u8, u9, u10, u11, u12, u13, u14, u15, u16, u17, u18, u19, u20, u21, u22, u23, u24, u25, u26, u27, u28, u29, u30, u31, u32, u33, u34, u35, u36, u37, u38, u39, u40, u41, u42, u43, u44, u45, u46, u47, u48, u49, u50, u51, u52, u53, u54, u55, u56, u57, u58, u59, u60, u61, u62, u63, u64, u65, u66, u67, u68, u69, u70, u71, u72, u73, u74, u75, u76, u77, u78], []⟩ w') (a : Act) (w : World) (hJ : DecJ w0 b h t s R a w) :
    PassWp (Exit.jump 0 (fun a' w' => DecX w0 h t s R a' w' ∧ decMu a' w' < decMu a w) Q0) a w := by
  obtain ⟨k, cs, rest, out, outv, _, _, _, _, _, _, _, _, _, _, _, _, _, _, _, _, _, _, _, _, _, _, _, _, _, _, _, _, _, _, _, _, _, _, _, _, _, _, _, _, _, _, _, _, _, _, _, _, _, _, _, _, _, _, _, _, _, _, _, _, _, _, _, _, _, _, _, _, _, _, _, _, _, rfl, D⟩ := hJ
  have hsz : (strB (h ++ 42 :: t)).size = h.length + 1 + t.length := by rw [strB_size, List.length_append, List.length_cons]; omega
  have htp : 0 < t.length := by cases t with | nil => exact absurd rfl hne | cons _ _ => simp
  have hmu : 1000 - lenOf outv = 1000 - out.length := by rw [its_len D.its]
  cases cs with
  | nil =>
    have hpos := D.hcs.none
    rw [← hsz] at hpos
    by_cases hr : rest = []
    · have hR := D.go
      rw [hr, decGo_done] at hR
      refine pass_done w (strB (h ++ 42 :: t)) (strB s) h.length b k outv _ _ _ _ _ _ _ _ _ _ _ _ _ _ _ _ _ _ _ _ _ _ _ _ _ _ _ _ _ _ _ _ _ _ _ _ _ _ _ _ _ _ _ _ _ _ _ _ _ _ _ _ _ _ _ _ _ _ _ _ _ _ _ _ _ _ _ _ _ _ _ _ _ _ hpos (by omega) (by omega) (hr ▸ D.rd) ?_
      intro u0 u1 u2 u3 u6 u7 u8 u9 u10 u11 u12 u13 u14 u15 u16 u17 u18 u19 u20 u21 u22 u23 u24 u25 u26 u27 u28 u29 u30 u31 u32 u33 u34 u35 u36 u37 u38 u39 u40 u41 u42 u43 u44 u45 u46 u47 u48 u49 u50 u51 u52 u53 u54 u55 u56 u57 u58 u59 u60 u61 u62 u63 u64 u65 u66 u67 u68 u69 u70 u71 u72 u73 u74 u75 u76 u77 u78
      have := hret w outv u0 u1 u2 u3 u6 u7 u8 u9 u10 u11 u12 u13 u14 u15 u16 u17 u18 u19 u20 u21 u22 u23 u24 u25 u26 u27 u28 u29 u30 u31 u32 u33 u34 u35 u36 u37 u38 u39 u40 u41 u42 u43 u44 u45 u46 u47 u48 u49 u50 u51 u52 u53 u54 u55 u56 u57 u58 u59 u60 u61 u62 u63 u64 u65 u66 u67 u68 u69 u70 u71 u72 u73 u74 u75 u76 u77 u78
      rw [← hR] at this
      exact this (Kd.R_mono D.its (fun _ h => h.1)) D.below
    · obtain ⟨c, cs', htc⟩ : ∃ c cs', t = c :: cs' := by cases t with | nil => exact absurd rfl hne | cons c cs' => exact ⟨c, cs', rfl⟩
      have hrd := Cs.round (h := h) htc
      have hR := D.go
      rw [decGo_step t _ [] rest out c cs' (fun h => hr h.2) (by rw [if_pos rfl]; exact htc)] at hR
      refine pass_again w (strB (h ++ 42 :: t)) (strB s) h.length b k rest outv _ _ _ _ _ _ _ _ _ _ _ _ _ _ _ _ _ _ _ _ _ _ _ _ _ _ _ _ _ _ _ _ _ _ _ _ _ _ _ _ _ _ _ _ _ _ _ _ _ _ _ _ _ _ _ _ _ _ _ _ _ _ _ _ _ _ _ _ _ _ _ _ _ _ hpos (by omega) (by omega) D.rd hr ?_
      intro u2 u3 u4 u5 u10 u11 u12 u13 u14 u15 u16 u17 u18 u19 u20 u21 u22 u23 u24 u25 u26 u27 u28 u29 u30 u31 u32 u33 u34 u35 u36 u37 u38 u39 u40 u41 u42 u43 u44 u45 u46 u47 u48 u49 u50 u51 u52 u53 u54 u55 u56 u57 u58 u59 u60 u61 u62 u63 u64 u65 u66 u67 u68 u69 u70 u71 u72 u73 u74 u75 u76 u77 u78
      refine tail_step w0 w b h t s R (h.length + 1) c cs' rest out outv Q0 hb hS hl hrd.2.2.1 hrd.1 (ht c hrd.2.2.2) hrd.2.1 ?_ D.len D.hrest D.rd D.its D.below hret _ _ _ _ _ _ _ _ _ _ _ _ _ _ _ _ _ _ _ _ _ _ _ _ _ _ _ _ _ _ _ _ _ _ _ _ _ _ _ _ _ _ _ _ _ _ _ _ _ _ _ _ _ _ _ _ _ _ _ _ _ _ _ _ _ _ _ _ _ _ _ _ _ _ hmu
      rw [← hR]
      by_cases hf : out.length = 1000
      · rw [if_pos hf, hf]; rfl
      · rw [if_neg hf]
        have := D.len
        obtain ⟨n, hn⟩ : ∃ n, 1000 - out.length = n + 1 := ⟨1000 - out.length - 1, by omega⟩
        rw [hn, show 1000 - (out.length + 1) = n by omega]
  | cons c cs' =>
    have hrd := D.hcs.some
    have hR := D.go
    rw [decGo_step t _ (c :: cs') rest out c cs' (fun h => by simp at h) (by rw [if_neg (by simp)])] at hR
    refine pass_mid w (strB (h ++ 42 :: t)) (strB s) h.length b k outv _ _ _ _ _ _ _ _ _ _ _ _ _ _ _ _ _ _ _ _ _ _ _ _ _ _ _ _ _ _ _ _ _ _ _ _ _ _ _ _ _ _ _ _ _ _ _ _ _ _ _ _ _ _ _ _ _ _ _ _ _ _ _ _ _ _ _ _ _ _ _ _ _ _ (by omega) (by omega) hrd.2.1 ?_
    intro u2 u3 u4 u5 u10 u11 u12 u13 u14 u15 u16 u17 u18 u19 u20 u21 u22 u23 u24 u25 u26 u27 u28 u29 u30 u31 u32 u33 u34 u35 u36 u37 u38 u39 u40 u41 u42 u43 u44 u45 u46 u47 u48 u49 u50 u51 u52 u53 u54 u55 u56 u57 u58 u59 u60 u61 u62 u63 u64 u65 u66 u67 u68 u69 u70 u71 u72 u73 u74 u75 u76 u77 u78
    refine tail_step w0 w b h t s R k c cs' rest out outv Q0 hb hS hl hrd.1 hrd.2.2.1 (hrd.2.2.2.2.elim (hh c) (ht c)) hrd.2.2.2.1 ?_ D.len D.hrest D.rd D.its D.below hret _ _ _ _ _ _ _ _ _ _ _ _ _ _ _ _ _ _ _ _ _ _ _ _ _ _ _ _ _ _ _ _ _ _ _ _ _ _ _ _ _ _ _ _ _ _ _ _ _ _ _ _ _ _ _ _ _ _ _ _ _ _ _ _ _ _ _ _ _ _ _ _ _ _ hmu
    rw [← hR]
    by_cases hf : out.length = 1000
    · rw [if_pos hf, hf]; rfl
    · rw [if_neg hf]
      have := D.len
      obtain ⟨n, hn⟩ : ∃ n, 1000 - out.length = n + 1 := ⟨1000 - out.length - 1, by omega⟩
      rw [hn, show 1000 - (out.length + 1) = n by omega]

def DecPost (w : World) (R : List Itm × Int) (e : Ending) (w' : World) : Prop :=
  ∃ v, e = .returned (.tuple #[v, .int .i64 R.2]) ∧ ItemsAt w' (fun i => w.heap.size ≤ i) v R.1 ∧ Below w.heap.size w w'

theorem index_star {h t : List UInt8} (hh : ∀ c ∈ h, isLetter c) (W : World) :
    Calls Tryd.prog 85 #[.string (strB (h ++ 42 :: t)), .int .u8 42] W fun e w' => e = .returned (.int .i64 h.length) ∧ w' = W := by
  have k := Tryd.strings_IndexByte (strB (h ++ 42 :: t)) 42 W
  rw [strB_list, show (42 : Int).toNat.toUInt8 = 42 from rfl, indexByte_hit (letter_star hh)] at k
  exact k

set_option maxRecDepth 100000 in
set_option maxHeartbeats 4000000 in
theorem dec_star (w : World) (h t s : List UInt8) (hS : SizesAt w) (hl : h.length + t.length ≤ 100000) (hh : ∀ c ∈ h, isLetter c) (ht : ∀ c ∈ t, isLetter c) (hne : t ≠ []) (hs : s.length ≤ 1000000000) :
    Calls Tryd.prog 56 #[.string (strB (h ++ 42 :: t)), .string (strB s)] w (DecPost w (decGo t 1000 h s [])) := by
  have hRt := fun W => right_star h t W hh ht hne (by omega)
  have hI := fun W => index_star (t := t) hh W
  have hP := fun (b : Nat) (hb : w.heap.size ≤ b) (Q0 : Exit → Act → World → Prop) => pass_any w b h t s (decGo t 1000 h s []) Q0 hb hS hl hh ht hne
  have hfirst : ∀ w1, Below w.heap.size w w1 → DecRel w w1.heap.size h t (decGo t 1000 h s []) 0 h s [] (.slice none 0 0) (w1.alloc (.cells #[.string (strB s), .int .i64 0] 153)) := fun w1 hb =>
    ⟨.inl ⟨Nat.zero_le _, rfl⟩, rfl, Nat.zero_le _, hs, heap_alloc_new w1 _, Kd.R_nil .., below_alloc hb _⟩
  obtain ⟨R, hR⟩ : ∃ R, decGo t 1000 h s [] = R := ⟨_, rfl⟩
  rw [hR] at hP hfirst ⊢
  have HRT := Lib.hid hRt
  have HI := Lib.hid hI
  have HP := Lib.hid hP
  have HF := Lib.hid hfirst
  clear hRt hI hP hfirst hS hl hh ht hne hs hR
  go_enter Tryd.func56, Tryd.ntmps56
  go_wp2
  refine wp_scope_jumps 0 (DecX w h t s R) decMu rfl ?_ ?_
  · refine gen_last ?_
    intro T hT
    have HT := Lib.hid hT
    clear hT
    go_wp2_with (first | (go_at_call 84; refine (HRT.out _).mono ?_; rintro e w1 ⟨rfl, hb1⟩) | (go_at_call 85; refine (HI.out _).mono ?_; rintro e w2 ⟨rfl, hw⟩; rw [hw]; clear hw w2))
    go_step3
    go_wp2
    rw [HT.out]
    refine wp_mono (HP.out w1.heap.size hb1.size (bodyPost Tryd.prog Tryd.f56 (DecPost w R)) (fun w' v u0 u1 u2 u3 u6 u7 u8 u9 u10 u11 u12 u13 u14 u15 u16 u17 u18 u19 u20 u21 u22 u23 u24 u25 u26 u27 u28 u29 u30 u31 u32 u33 u34 u35 u36 u37 u38 u39 u40 u41 u42 u43 u44 u45 u46 u47 u48 u49 u50 u51 u52 u53 u54 u55 u56 u57 u58 u59 u60 u61 u62 u63 u64 u65 u66 u67 u68 u69 u70 u71 u72 u73 u74 u75 u76 u77 u78 hi hbl => by go_ret2; exact ⟨v, rfl, hi, hbl⟩) _ _ ⟨0, h, s, [], .slice none 0 0, _, _, _, _, _, _, _, _, _, _, _, _, _, _, _, _, _, _, _, _, _, _, _, _, _, _, _, _, _, _, _, _, _, _, _, _, _, _, _, _, _, _, _, _, _, _, _, _, _, _, _, _, _, _, _, _, _, _, _, _, _, _, _, _, _, _, _, _, _, _, _, _, _, rfl, HF.out w1 hb1⟩) (fun e a w h => ?_)
    cases e <;> first | exact h | exact ⟨h.1, h.2.1⟩
  · rintro a w2 ⟨b, hb, hJ⟩
    refine wp_skip_seq ?_
    exact HP.out b hb _ (fun w' v u0 u1 u2 u3 u6 u7 u8 u9 u10 u11 u12 u13 u14 u15 u16 u17 u18 u19 u20 u21 u22 u23 u24 u25 u26 u27 u28 u29 u30 u31 u32 u33 u34 u35 u36 u37 u38 u39 u40 u41 u42 u43 u44 u45 u46 u47 u48 u49 u50 u51 u52 u53 u54 u55 u56 u57 u58 u59 u60 u61 u62 u63 u64 u65 u66 u67 u68 u69 u70 u71 u72 u73 u74 u75 u76 u77 u78 hi hbl => by go_ret2; exact ⟨v, rfl, hi, hbl⟩) a w2 hJ
end Go.Proofs.YtdbnanniboiooaaDoor
