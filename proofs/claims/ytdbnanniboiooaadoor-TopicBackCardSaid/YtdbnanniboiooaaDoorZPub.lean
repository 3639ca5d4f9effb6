/-
  topic.Publish adds a record, once for each number of a producer.
  topic.Publish, where a record is added.
-/
import Derived.Test.YtdbnanniboiooaaDoorZTop
import Derived.Deep.AppendLies
import Derived.StillTailTactics
set_option linter.unusedVariables false
set_option linter.unusedSimpArgs false
namespace Go.Proofs.Carillon
def Tp.nu (T : Tp) (p : ByteArray) (seq : Int) (k v : ByteArray) : Rec := ⟨T.fin, p, seq, k, v⟩
def Tp.added (T : Tp) (p : ByteArray) (seq : Int) (k v : ByteArray) : Tp := { T with prods := mput T.prods p (seq, T.fin), recs := T.recs ++ [T.nu p seq k v], fin := T.fin + 1 }
def Tp.pub (T : Tp) (p : ByteArray) (seq : Int) (k v : ByteArray) : Tp × Int × Int :=
  if wordB p = true ∧ rightB (T.nu p seq k v) = true then
    match mget T.prods p with
    | none => (T.added p seq k v, T.fin, 0)
    | some (s, o) => if seq < s then (T, 0, 6) else if s = seq then (T, o, 0) else (T.added p seq k v, T.fin, 0)
  else (T, 0, 7)
end Go.Proofs.Carillon
namespace Go.Proofs.YtdbnanniboiooaaDoor
open Go.RowKit Go.Proofs.Carillon Go.Proofs.YtdbnanniboiooaaDoorW.PrintWords Go.Lib Go.Shelf

theorem zeroLast (W : World) : (zeroValue 93).run Tryd.prog W = .ok (.agg #[.int .i64 0, .int .i64 0, .string ⟨#[]⟩]) W := by kernel_rfl
theorem look_last {w : World} {ok : Nat → Prop} {a bm : Nat} {rv : Value} {T : Tp} (h : TopicAt w ok a bm rv T) (s : ByteArray) (hs : s.size ≤ 20) (q o : Int) (hg : mget T.prods s = some (q, o)) :
    (Instr.lookup 80 (.map (some bm)) (.string s) true).run Tryd.prog w = .ok (.tuple #[.agg #[.int .i64 q, .int .i64 o, .string s], .bool true]) w := by
  have := h.map.look Tryd.underlying9 Tryd.underlying80 (zeroLast w) s (by unfold maxLen; omega)
  rw [withNames_get, hg] at this
  exact this
theorem look_none {w : World} {ok : Nat → Prop} {a bm : Nat} {rv : Value} {T : Tp} (h : TopicAt w ok a bm rv T) (s : ByteArray) (hs : s.size ≤ 20) (hg : mget T.prods s = none) :
    (Instr.lookup 80 (.map (some bm)) (.string s) true).run Tryd.prog w = .ok (.tuple #[.agg #[.int .i64 0, .int .i64 0, .string ⟨#[]⟩], .bool false]) w := by
  have := h.map.look Tryd.underlying9 Tryd.underlying80 (zeroLast w) s (by unfold maxLen; omega)
  rw [withNames_get, hg] at this
  exact this

/-- What Publish knows when it has looked at the record: the box of the record at b, in a later world. -/
structure Boxed (w : World) (b : Nat) (r : Rec) (W : World) : Prop where
  blk : W.heap[b]? = some (.cells #[.int .i64 r.off, .string r.prod, .int .i64 r.seq, .string r.key, .string r.val] 41 (0, 0))
  below : Below w.heap.size w W
theorem boxed_start (w : World) (r : Rec) : Boxed w w.heap.size r (w.alloc (.cells #[.int .i64 r.off, .string r.prod, .int .i64 r.seq, .string r.key, .string r.val] 41)) := ⟨heap_alloc_new w _, below_alloc (Below.refl _ _) _⟩
theorem Boxed.later {w W W1 : World} {b : Nat} {r : Rec} (h : Boxed w b r W) (hb : Below W.heap.size W W1) : Boxed w b r W1 := ⟨below_at hb h.blk, below_step h.below hb⟩

set_option maxHeartbeats 2000000 in
theorem pub_bad (w : World) (ok : Nat → Prop) (a bm : Nat) (rv : Value) (T : Tp) (hT : TopicAt w ok a bm rv T) (p : ByteArray) (seq : Int) (k v : ByteArray) (h : ¬ (wordB p = true ∧ rightB (T.nu p seq k v) = true)) :
    Calls Tryd.prog 23 #[.pointer (some ⟨a, 0, none⟩), .string p, .int .i64 seq, .string k, .string v] w fun e w' => e = .returned (.tuple #[.int .i64 0, .int .i64 7]) ∧ Below w.heap.size w w' := by
  have c2 := hT.c2
  have hB := boxed_start w (T.nu p seq k v)
  have hW := fun W => word_any p W
  have hR := fun W => segRight_any (T.nu p seq k v) W
  simp only [Tp.nu] at hB hR h
  obtain ⟨fi, hfi⟩ : ∃ fi, T.fin = fi := ⟨_, rfl⟩
  rw [hfi] at c2 hB hR h
  clear hfi
  have HB := Lib.hid hB
  clear hB hT
  by_cases hw : wordB p = true
  · have hr : rightB ⟨fi, p, seq, k, v⟩ = false := by
      cases hx : rightB ⟨fi, p, seq, k, v⟩ with
      | false => rfl
      | true => exact absurd ⟨hw, hx⟩ h
    rw [hw] at hW
    rw [hr] at hR
    have HW := Lib.hid hW
    have HR := Lib.hid hR
    clear hW hR hw hr h
    go_enter Tryd.func23, Tryd.ntmps23
    go_wp2_with (first | (go_at_call 34; refine (HW.out _).mono ?_; rintro e w1 ⟨rfl, hb⟩; have hB1 := HB.out.later hb; have q0 := cell_blk (j := 0) hB1.blk rfl; have q1 := cell_blk (j := 1) hB1.blk rfl; have q2 := cell_blk (j := 2) hB1.blk rfl; have q3 := cell_blk (j := 3) hB1.blk rfl; have q4 := cell_blk (j := 4) hB1.blk rfl; have HB1 := Lib.hid hB1; clear hB1) | (go_at_call 35; refine (HR.out _).mono ?_; rintro e w2 ⟨rfl, hb2⟩))
    go_ret2
    exact ⟨rfl, below_step HB1.out.below hb2⟩
  · have hw' : wordB p = false := by simpa using hw
    rw [hw'] at hW
    have HW := Lib.hid hW
    clear hW hR hw hw' h
    go_enter Tryd.func23, Tryd.ntmps23
    go_wp2_with (first | (go_at_call 34; refine (HW.out _).mono ?_; rintro e w1 ⟨rfl, hb⟩; have hB1 := HB.out.later hb; have HB1 := Lib.hid hB1; clear hB1))
    go_ret2
    exact ⟨rfl, HB1.out.below⟩

theorem right_word {p : ByteArray} (h : wordB p = true) : p.size ≤ 20 := by
  unfold wordB at h
  simp only [Bool.and_eq_true, decide_eq_true_eq] at h
  exact h.1.2

set_option maxHeartbeats 2000000 in
theorem pub_again (w : World) (ok : Nat → Prop) (a bm : Nat) (rv : Value) (T : Tp) (hT : TopicAt w ok a bm rv T) (p : ByteArray) (seq : Int) (k v : ByteArray) (hw : wordB p = true) (hr : rightB (T.nu p seq k v) = true) (q o : Int) (hg : mget T.prods p = some (q, o)) (hq : seq ≤ q) :
    Calls Tryd.prog 23 #[.pointer (some ⟨a, 0, none⟩), .string p, .int .i64 seq, .string k, .string v] w fun e w' => e = .returned (.tuple #[.int .i64 (if seq < q then 0 else o), .int .i64 (if seq < q then 6 else 0)]) ∧ Below w.heap.size w w' := by
  have hs := right_word hw
  have hge : decide (seq ≤ q) = true := decide_eq_true hq
  by_cases hlt : seq < q
  · rw [if_pos hlt, if_pos hlt]
    have hd : decide (seq < q) = true := decide_eq_true hlt
    have c2 := hT.c2
    have hB := boxed_start w (T.nu p seq k v)
    have hW := fun W => word_any p W
    have hR := fun W => segRight_any (T.nu p seq k v) W
    have hT1 : ∀ W, Below w.heap.size w W → TopicAt W ok a bm rv T := fun W hb => hT.below hb
    simp only [Tp.nu] at hB hR hr
    obtain ⟨fi, hfi⟩ : ∃ fi, T.fin = fi := ⟨_, rfl⟩
    rw [hfi] at c2 hB hR hr
    rw [hw] at hW
    rw [hr] at hR
    have HB := Lib.hid hB
    have HT := Lib.hid hT1
    have HW := Lib.hid hW
    have HR := Lib.hid hR
    have HF := Lib.hid hfi
    clear hW hR hw hr hB hT hfi hT1
    go_enter Tryd.func23, Tryd.ntmps23
    go_wp2_with (first | (go_at_call 34; refine (HW.out _).mono ?_; rintro e w1 ⟨rfl, hb⟩; have hB1 := HB.out.later hb; have q0 := cell_blk (j := 0) hB1.blk rfl; have q1 := cell_blk (j := 1) hB1.blk rfl; have q2 := cell_blk (j := 2) hB1.blk rfl; have q3 := cell_blk (j := 3) hB1.blk rfl; have q4 := cell_blk (j := 4) hB1.blk rfl; have HB1 := Lib.hid hB1; clear hB1) | (go_at_call 35; refine (HR.out _).mono ?_; rintro e w2 ⟨rfl, hb2⟩; have hB2 := HB1.out.later hb2; have hT2 := HT.out _ hB2.below; have lk := look_last hT2 p hs q o hg; have d2 := hT2.c2; have d3 := hT2.c3; have d4 := hT2.c4; clear q0 q1 q2 q3 q4; have HB2 := Lib.hid hB2; have HT2 := Lib.hid hT2; clear hB2 hT2))
    go_ret2
    exact ⟨rfl, below_step HB2.out.below (below_alloc (Below.refl _ _) _)⟩
  · rw [if_neg hlt, if_neg hlt]
    have hd : decide (seq < q) = false := decide_eq_false hlt
    have c2 := hT.c2
    have hB := boxed_start w (T.nu p seq k v)
    have hW := fun W => word_any p W
    have hR := fun W => segRight_any (T.nu p seq k v) W
    have hT1 : ∀ W, Below w.heap.size w W → TopicAt W ok a bm rv T := fun W hb => hT.below hb
    simp only [Tp.nu] at hB hR hr
    obtain ⟨fi, hfi⟩ : ∃ fi, T.fin = fi := ⟨_, rfl⟩
    rw [hfi] at c2 hB hR hr
    rw [hw] at hW
    rw [hr] at hR
    have HB := Lib.hid hB
    have HT := Lib.hid hT1
    have HW := Lib.hid hW
    have HR := Lib.hid hR
    have HF := Lib.hid hfi
    clear hW hR hw hr hB hT hfi hT1
    go_enter Tryd.func23, Tryd.ntmps23
    go_wp2_with (first | (go_at_call 34; refine (HW.out _).mono ?_; rintro e w1 ⟨rfl, hb⟩; have hB1 := HB.out.later hb; have q0 := cell_blk (j := 0) hB1.blk rfl; have q1 := cell_blk (j := 1) hB1.blk rfl; have q2 := cell_blk (j := 2) hB1.blk rfl; have q3 := cell_blk (j := 3) hB1.blk rfl; have q4 := cell_blk (j := 4) hB1.blk rfl; have HB1 := Lib.hid hB1; clear hB1) | (go_at_call 35; refine (HR.out _).mono ?_; rintro e w2 ⟨rfl, hb2⟩; have hB2 := HB1.out.later hb2; have hT2 := HT.out _ hB2.below; have lk := look_last hT2 p hs q o hg; have d2 := hT2.c2; have d3 := hT2.c3; have d4 := hT2.c4; clear q0 q1 q2 q3 q4; have HB2 := Lib.hid hB2; have HT2 := Lib.hid hT2; clear hB2 hT2))
    go_ret2
    exact ⟨rfl, below_step HB2.out.below (below_alloc (Below.refl _ _) _)⟩
end Go.Proofs.YtdbnanniboiooaaDoor
namespace Go.Proofs.YtdbnanniboiooaaDoor
open Go.RowKit Go.Proofs.Carillon Go.Proofs.YtdbnanniboiooaaDoorW.PrintWords Go.Lib Go.Shelf

theorem TopicAt.put_prods {w w1 : World} {ok : Nat → Prop} {a bm : Nat} {rv : Value} {T : Tp} (h : TopicAt w ok a bm rv T) {m : List (ByteArray × (Int × Int))} (hm : MapOf Tryd.prog 9 lastE w1 bm (withNames m)) (ht : w.mapTurned w1 bm) :
    TopicAt w1 ok a bm rv { T with prods := m } := by
  obtain ⟨es, c, hmb⟩ := h.map.isMap
  have hne : a ≠ bm := fun e => by rw [← e, h.blk] at hmb; cases hmb
  have hg := ht.grown
  refine ⟨(hg.block a (blk_lt h.blk) (by simpa using hne)).trans h.blk, h.oka, h.okm, hm, ?_⟩
  refine Kd.R_mono (Kd.R_move (Kd.R_bound h.recs) (fun k hk => ?_)) (fun k hk => hk.1)
  obtain ⟨_, _, hlt, q, _, cells, hc⟩ := hk
  exact hg.block k hlt (fun e => by injection e with e; rw [e, hmb] at hc; cases hc)

theorem right_fin {T : Tp} {p : ByteArray} {seq : Int} {k v : ByteArray} (h : rightB (T.nu p seq k v) = true) : T.fin ≤ 9007199254740991 := by
  unfold rightB Tp.nu great at h
  simp only [Bool.and_eq_true, decide_eq_true_eq] at h
  exact h.1.1.1.1.2
section
variable {W w5 : World} {ok ok1 : Nat → Prop} {a bm : Nat} {rv : Value} {T : Tp}
theorem TopicAt.grown_blk (h : TopicAt W ok a bm rv T) (hg : W.grownBy w5 rv.ownBlock) : w5.heap[a]? = some (.cells #[.string T.name, .int .i64 T.low, .int .i64 T.fin, .map (some bm), rv] 82 (0, 0)) :=
  (hg.block a (blk_lt h.blk) (Kd.R_ne h.recs h.blk (by decide))).trans h.blk
theorem TopicAt.grown_put (h : TopicAt W ok a bm rv T) (hg : W.grownBy w5 rv.ownBlock) (ho : ∀ k, ok k → ok1 k) {v : Value} {l : List Rec} (hv : RecsAt w5 ok1 v l) : TopicAt (w5.setCell ⟨a, 4, none⟩ v) ok1 a bm v { T with recs := l } := by
  obtain ⟨es, c, hm⟩ := h.map.isMap
  have hb := h.grown_blk hg
  have hne : bm ≠ a := fun e => by rw [e, h.blk] at hm; cases hm
  have hn2 : some bm ≠ rv.ownBlock := fun e => by
    obtain ⟨inner, ho⟩ := Kd.R_own h.recs
    obtain ⟨cells, hc⟩ := own_typed ho bm e.symm
    rw [hc] at hm; cases hm
  exact ⟨blk_put hb 4 v rfl, ho _ h.oka, ho _ h.okm, (h.map.move (hg.block bm h.map.lt hn2)).move (Below.heap_setCell _ _ _ _ hne), Kd.R_set hv hb (by intro q hq; simp only [kRec, flat, List.mem_cons, List.not_mem_nil, or_false] at hq; subst hq; decide) 4 v⟩
theorem TopicAt.turned_recs (h : TopicAt W ok a bm rv T) (hg : W.grownBy w5 rv.ownBlock) : Turned ok W w5 := Turned.of_grown hg (fun k hk => h.recs.1 k hk)
end

set_option maxRecDepth 100000 in
set_option maxHeartbeats 2000000 in
theorem pub_first (w : World) (ok : Nat → Prop) (a bm : Nat) (rv : Value) (T : Tp) (hT : TopicAt w ok a bm rv T) (p : ByteArray) (seq : Int) (k v : ByteArray) (hw : wordB p = true) (hr : rightB (T.nu p seq k v) = true) (hg : mget T.prods p = none)
    (hl : T.recs.length ≤ 1000000) (hp : T.prods.length ≤ 1000000) (hf0 : 0 ≤ T.fin) :
    Calls Tryd.prog 23 #[.pointer (some ⟨a, 0, none⟩), .string p, .int .i64 seq, .string k, .string v] w fun e w' => e = .returned (.tuple #[.int .i64 T.fin, .int .i64 0]) ∧ TopicHere w' (more ok w) a (T.added p seq k v) ∧ Turned ok w w' := by
    have hs := right_word hw
    have hf1 : T.fin ≤ 9007199254740991 := right_fin hr
    have hbm := hT.map.lt
    have hab : a < w.heap.size := blk_lt hT.blk
    have hrb : some w.heap.size ≠ rv.ownBlock := fun e => by have := ((Kd.R_bound hT.recs).1 _ e.symm).2.2.1; omega
    have c2 := hT.c2
    have hB := boxed_start w (T.nu p seq k v)
    have hW := fun W => word_any p W
    have hR := fun W => segRight_any (T.nu p seq k v) W
    have hT1 : ∀ W, Below w.heap.size w W → TopicAt W ok a bm rv T := fun W hb => hT.below hb
    simp only [Tp.nu] at hB hR hr
    obtain ⟨fi, hfi⟩ : ∃ fi, T.fin = fi := ⟨_, rfl⟩
    rw [hfi] at c2 hB hR hr hf0 hf1
    rw [hw] at hW
    rw [hr] at hR
    have HB := Lib.hid hB
    have HT := Lib.hid hT1
    have HW := Lib.hid hW
    have HR := Lib.hid hR
    have HF := Lib.hid hfi
    clear hW hR hw hr hB hT hfi hT1
    go_enter Tryd.func23, Tryd.ntmps23
    go_wp2_with (first | (go_at_call 34; refine (HW.out _).mono ?_; rintro e w1 ⟨rfl, hb⟩; have hB1 := HB.out.later hb; have q0 := cell_blk (j := 0) hB1.blk rfl; have q1 := cell_blk (j := 1) hB1.blk rfl; have q2 := cell_blk (j := 2) hB1.blk rfl; have q3 := cell_blk (j := 3) hB1.blk rfl; have q4 := cell_blk (j := 4) hB1.blk rfl; have HB1 := Lib.hid hB1; clear hB1) | (go_at_call 35; refine (HR.out _).mono ?_; rintro e w2 ⟨rfl, hb2⟩; have hB2 := HB1.out.later hb2; have hT2 := HT.out _ hB2.below; have lk := look_none hT2 p hs hg; have d2 := hT2.c2; have d3 := hT2.c3; have d4 := hT2.c4; clear q0 q1 q2 q3 q4; have HB2 := Lib.hid hB2; have HT2 := Lib.hid hT2; clear hB2 hT2))
    generalize hw3 : w2.alloc (Obj.cells #[Value.int IntKind.i64 0, Value.int IntKind.i64 0, Value.string { data := #[] }] 93) = w3
    have hb3 : Below w2.heap.size w2 w3 := hw3 ▸ below_alloc (Below.refl _ _) _
    clear hw3 d2 d3 d4 lk
    have hT3 := HT2.out.below hb3
    have hB3 := HB2.out.later hb3
    have e2 := hT3.c2
    have e3 := hT3.c3
    rw [HF.out] at e2
    obtain ⟨w4, hst, hm4, ht4⟩ := (hT3.map.move (w1 := w3.drew) rfl).store Tryd.underlying9 Tryd.underlying80 (by rw [withNames_length]; unfold maxLen; omega) p (by unfold maxLen; omega) (p, seq, fi)
    rw [withNames_put] at hm4
    have hst' : (Instr.mapUpdate 80 (.map (some bm)) (.string p) (.agg #[.int .i64 seq, .int .i64 fi, .string p])).run Tryd.prog w3.drew = .ok () w4 := hst
    clear hst
    have hT4 := (hT3.move (w1 := w3.drew) (fun _ _ _ => rfl)).put_prods hm4 ht4
    have hk4' : Turned (fun k => k = bm) w3.drew w4 := Turned.of_map ht4 rfl
    have hk4 : Turned (fun k => k = bm) w3 w4 := ⟨hk4'.os, hk4'.tape, hk4'.output, hk4'.size, hk4'.block⟩
    clear hk4'
    have hbx := hk4.at_ hB3.blk (by omega)
    have HT3 := Lib.hid hT3
    have HB3 := Lib.hid hB3
    have HT4 := Lib.hid hT4
    have HK4 := Lib.hid hk4
    clear hT3 hB3 hT4 hk4 hm4 ht4 hb3
    go_region
    have g0 := cell_blk (j := 0) hbx rfl
    have g1 := cell_blk (j := 1) hbx rfl
    have g2 := cell_blk (j := 2) hbx rfl
    have g3 := cell_blk (j := 3) hbx rfl
    have g4 := cell_blk (j := 4) hbx rfl
    have f4 := HT4.out.c4
    have f4a : ∀ o, (w4.alloc o).cell? ⟨a, 4, none⟩ = some rv := fun o => pw_cell_below (below_alloc (Below.refl _ _) _) f4
    have HX := Lib.hid hbx
    clear hbx
    go_wp2
    have hz : w.heap.size ≤ w4.heap.size := Nat.le_trans HB3.out.below.size HK4.out.size
    have hR4 : RecsAt w4.drew (more ok w) rv T.recs := Kd.R_mono (Kd.R_step HT4.out.recs (fun _ _ _ => rfl)) (fun _ h => .inl h)
    have hL : (T.recs.length + 1) * 64 ≤ 140737488355328 := by omega
    have HZ := Lib.hid hz
    have HR4 := Lib.hid hR4
    have HL := Lib.hid hL
    clear hz hR4 hL
    go_region_law (refine Kd.R_append_step kRec (w0 := w4) (W := w4.drew) 0 rfl (.tmp 74) (.tmp 76) 32 41 _ 64 rfl Tryd.underlying32 infoRec rfl (by decide) (by decide) rv T.recs ⟨fi, p, seq, k, v⟩ (Rec.cells ⟨fi, p, seq, k, v⟩) (more ok w) (fun _ => False) rfl rfl rfl (fun _ h => h.elim) (fun k hk => .inr (Nat.le_trans HZ.out hk)) HR4.out (below_drew (Below.refl _ _)) (Nat.zero_le _) HL.out ?_; intro v1 w5 hv1 _ hg1 _; obtain ⟨A1, c1, rfl⟩ := Kd.R_slice hv1; have hgb := TopicAt.grown_blk (HT4.out.move (w1 := w4.drew) (fun _ _ _ => rfl)) hg1; have k4 := cell_blk (j := 4) hgb rfl; have k4f := free_blk (j := 4) hgb; have k2 := cell_blk (j := 2) hgb rfl; have k2f := free_blk (j := 2) hgb; have kx := cell_blk (j := 0) ((hg1.block _ (blk_lt (show w4.drew.heap[w.heap.size]? = _ from HX.out)) hrb).trans (show w4.drew.heap[w.heap.size]? = _ from HX.out)) rfl; clear hgb)
    all_goals
      have hT6 := TopicAt.grown_put (ok1 := more ok w) (HT4.out.move (w1 := w4.drew) (fun _ _ _ => rfl)) hg1 (fun _ h => .inl h) hv1
      have hk6 : Turned ok w4.drew w5 := TopicAt.turned_recs (HT4.out.move (w1 := w4.drew) (fun _ _ _ => rfl)) hg1
      have HT6 := Lib.hid hT6
      have HK6 := Lib.hid hk6
      clear hT6 hk6 hv1 hg1 k4 k4f f4 f4a hl hp
      rw [HF.out] at k2
      go_wp2
      go_ret2
      refine ⟨by rw [HF.out]; rfl, ?_, ?_⟩
      · have := (HT6.out.put_fin (fi + 1)).here
        rw [List.length_append, List.length_singleton] at this
        unfold Tp.added Tp.nu
        rw [HF.out]
        exact this
      · have s1 : Turned ok w w4 := (Turned.of_below HB3.out.below).trans HK4.out (fun k hk => .inl (by rw [hk]; exact HT3.out.okm))
        have s2 : Turned ok w w5 := s1.trans (⟨HK6.out.os, HK6.out.tape, HK6.out.output, HK6.out.size, HK6.out.block⟩ : Turned ok w4 w5) (fun _ h => .inl h)
        exact ((s2.trans (Turned.of_cell (ok := ok) a 4 _ HT3.out.oka) (fun _ h => .inl h)).trans (Turned.of_cell (ok := ok) a 2 _ HT3.out.oka) (fun _ h => .inl h))
set_option maxRecDepth 100000 in
set_option maxHeartbeats 2000000 in
theorem pub_later (w : World) (ok : Nat → Prop) (a bm : Nat) (rv : Value) (T : Tp) (hT : TopicAt w ok a bm rv T) (p : ByteArray) (seq : Int) (k v : ByteArray) (hw : wordB p = true) (hr : rightB (T.nu p seq k v) = true) (q o : Int) (hg : mget T.prods p = some (q, o)) (hq : ¬ seq ≤ q)
    (hl : T.recs.length ≤ 1000000) (hp : T.prods.length ≤ 1000000) (hf0 : 0 ≤ T.fin) :
    Calls Tryd.prog 23 #[.pointer (some ⟨a, 0, none⟩), .string p, .int .i64 seq, .string k, .string v] w fun e w' => e = .returned (.tuple #[.int .i64 T.fin, .int .i64 0]) ∧ TopicHere w' (more ok w) a (T.added p seq k v) ∧ Turned ok w w' := by
    have hs := right_word hw
    have hge : decide (seq ≤ q) = false := decide_eq_false hq
    have hf1 : T.fin ≤ 9007199254740991 := right_fin hr
    have hbm := hT.map.lt
    have hab : a < w.heap.size := blk_lt hT.blk
    have hrb : some w.heap.size ≠ rv.ownBlock := fun e => by have := ((Kd.R_bound hT.recs).1 _ e.symm).2.2.1; omega
    have c2 := hT.c2
    have hB := boxed_start w (T.nu p seq k v)
    have hW := fun W => word_any p W
    have hR := fun W => segRight_any (T.nu p seq k v) W
    have hT1 : ∀ W, Below w.heap.size w W → TopicAt W ok a bm rv T := fun W hb => hT.below hb
    simp only [Tp.nu] at hB hR hr
    obtain ⟨fi, hfi⟩ : ∃ fi, T.fin = fi := ⟨_, rfl⟩
    rw [hfi] at c2 hB hR hr hf0 hf1
    rw [hw] at hW
    rw [hr] at hR
    have HB := Lib.hid hB
    have HT := Lib.hid hT1
    have HW := Lib.hid hW
    have HR := Lib.hid hR
    have HF := Lib.hid hfi
    clear hW hR hw hr hB hT hfi hT1
    go_enter Tryd.func23, Tryd.ntmps23
    go_wp2_with (first | (go_at_call 34; refine (HW.out _).mono ?_; rintro e w1 ⟨rfl, hb⟩; have hB1 := HB.out.later hb; have q0 := cell_blk (j := 0) hB1.blk rfl; have q1 := cell_blk (j := 1) hB1.blk rfl; have q2 := cell_blk (j := 2) hB1.blk rfl; have q3 := cell_blk (j := 3) hB1.blk rfl; have q4 := cell_blk (j := 4) hB1.blk rfl; have HB1 := Lib.hid hB1; clear hB1) | (go_at_call 35; refine (HR.out _).mono ?_; rintro e w2 ⟨rfl, hb2⟩; have hB2 := HB1.out.later hb2; have hT2 := HT.out _ hB2.below; have lk := look_last hT2 p hs q o hg; have d2 := hT2.c2; have d3 := hT2.c3; have d4 := hT2.c4; clear q0 q1 q2 q3 q4; have HB2 := Lib.hid hB2; have HT2 := Lib.hid hT2; clear hB2 hT2))
    generalize hw3 : w2.alloc (Obj.cells #[Value.int IntKind.i64 q, Value.int IntKind.i64 o, Value.string p] 93) = w3
    have hb3 : Below w2.heap.size w2 w3 := hw3 ▸ below_alloc (Below.refl _ _) _
    clear hw3 d2 d3 d4 lk
    have hT3 := HT2.out.below hb3
    have hB3 := HB2.out.later hb3
    have e2 := hT3.c2
    have e3 := hT3.c3
    rw [HF.out] at e2
    obtain ⟨w4, hst, hm4, ht4⟩ := (hT3.map.move (w1 := w3.drew) rfl).store Tryd.underlying9 Tryd.underlying80 (by rw [withNames_length]; unfold maxLen; omega) p (by unfold maxLen; omega) (p, seq, fi)
    rw [withNames_put] at hm4
    have hst' : (Instr.mapUpdate 80 (.map (some bm)) (.string p) (.agg #[.int .i64 seq, .int .i64 fi, .string p])).run Tryd.prog w3.drew = .ok () w4 := hst
    clear hst
    have hT4 := (hT3.move (w1 := w3.drew) (fun _ _ _ => rfl)).put_prods hm4 ht4
    have hk4' : Turned (fun k => k = bm) w3.drew w4 := Turned.of_map ht4 rfl
    have hk4 : Turned (fun k => k = bm) w3 w4 := ⟨hk4'.os, hk4'.tape, hk4'.output, hk4'.size, hk4'.block⟩
    clear hk4'
    have hbx := hk4.at_ hB3.blk (by omega)
    have HT3 := Lib.hid hT3
    have HB3 := Lib.hid hB3
    have HT4 := Lib.hid hT4
    have HK4 := Lib.hid hk4
    clear hT3 hB3 hT4 hk4 hm4 ht4 hb3
    go_region
    have g0 := cell_blk (j := 0) hbx rfl
    have g1 := cell_blk (j := 1) hbx rfl
    have g2 := cell_blk (j := 2) hbx rfl
    have g3 := cell_blk (j := 3) hbx rfl
    have g4 := cell_blk (j := 4) hbx rfl
    have f4 := HT4.out.c4
    have f4a : ∀ o, (w4.alloc o).cell? ⟨a, 4, none⟩ = some rv := fun o => pw_cell_below (below_alloc (Below.refl _ _) _) f4
    have HX := Lib.hid hbx
    clear hbx
    go_wp2
    have hz : w.heap.size ≤ w4.heap.size := Nat.le_trans HB3.out.below.size HK4.out.size
    have hR4 : RecsAt w4.drew (more ok w) rv T.recs := Kd.R_mono (Kd.R_step HT4.out.recs (fun _ _ _ => rfl)) (fun _ h => .inl h)
    have hL : (T.recs.length + 1) * 64 ≤ 140737488355328 := by omega
    have HZ := Lib.hid hz
    have HR4 := Lib.hid hR4
    have HL := Lib.hid hL
    clear hz hR4 hL
    go_region_law (refine Kd.R_append_step kRec (w0 := w4) (W := w4.drew) 0 rfl (.tmp 74) (.tmp 76) 32 41 _ 64 rfl Tryd.underlying32 infoRec rfl (by decide) (by decide) rv T.recs ⟨fi, p, seq, k, v⟩ (Rec.cells ⟨fi, p, seq, k, v⟩) (more ok w) (fun _ => False) rfl rfl rfl (fun _ h => h.elim) (fun k hk => .inr (Nat.le_trans HZ.out hk)) HR4.out (below_drew (Below.refl _ _)) (Nat.zero_le _) HL.out ?_; intro v1 w5 hv1 _ hg1 _; obtain ⟨A1, c1, rfl⟩ := Kd.R_slice hv1; have hgb := TopicAt.grown_blk (HT4.out.move (w1 := w4.drew) (fun _ _ _ => rfl)) hg1; have k4 := cell_blk (j := 4) hgb rfl; have k4f := free_blk (j := 4) hgb; have k2 := cell_blk (j := 2) hgb rfl; have k2f := free_blk (j := 2) hgb; have kx := cell_blk (j := 0) ((hg1.block _ (blk_lt (show w4.drew.heap[w.heap.size]? = _ from HX.out)) hrb).trans (show w4.drew.heap[w.heap.size]? = _ from HX.out)) rfl; clear hgb)
    all_goals
      have hT6 := TopicAt.grown_put (ok1 := more ok w) (HT4.out.move (w1 := w4.drew) (fun _ _ _ => rfl)) hg1 (fun _ h => .inl h) hv1
      have hk6 : Turned ok w4.drew w5 := TopicAt.turned_recs (HT4.out.move (w1 := w4.drew) (fun _ _ _ => rfl)) hg1
      have HT6 := Lib.hid hT6
      have HK6 := Lib.hid hk6
      clear hT6 hk6 hv1 hg1 k4 k4f f4 f4a hl hp
      rw [HF.out] at k2
      go_wp2
      go_ret2
      refine ⟨by rw [HF.out]; rfl, ?_, ?_⟩
      · have := (HT6.out.put_fin (fi + 1)).here
        rw [List.length_append, List.length_singleton] at this
        unfold Tp.added Tp.nu
        rw [HF.out]
        exact this
      · have s1 : Turned ok w w4 := (Turned.of_below HB3.out.below).trans HK4.out (fun k hk => .inl (by rw [hk]; exact HT3.out.okm))
        have s2 : Turned ok w w5 := s1.trans (⟨HK6.out.os, HK6.out.tape, HK6.out.output, HK6.out.size, HK6.out.block⟩ : Turned ok w4 w5) (fun _ h => .inl h)
        exact ((s2.trans (Turned.of_cell (ok := ok) a 4 _ HT3.out.oka) (fun _ h => .inl h)).trans (Turned.of_cell (ok := ok) a 2 _ HT3.out.oka) (fun _ h => .inl h))

theorem pub_any (w : World) (ok : Nat → Prop) (a : Nat) (T : Tp) (hT : TopicHere w ok a T) (p : ByteArray) (seq : Int) (k v : ByteArray) (hl : T.recs.length ≤ 1000000) (hp : T.prods.length ≤ 1000000) (hf0 : 0 ≤ T.fin) :
    Calls Tryd.prog 23 #[.pointer (some ⟨a, 0, none⟩), .string p, .int .i64 seq, .string k, .string v] w fun e w' => e = .returned (.tuple #[.int .i64 (T.pub p seq k v).2.1, .int .i64 (T.pub p seq k v).2.2]) ∧ TopicHere w' (more ok w) a (T.pub p seq k v).1 ∧ Turned ok w w' := by
  obtain ⟨bm, rv, hT⟩ := hT
  have stay : ∀ w', Below w.heap.size w w' → TopicHere w' (more ok w) a T ∧ Turned ok w w' := fun w' hb => ⟨((hT.below hb).mono (fun _ h => .inl h)).here, Turned.of_below hb⟩
  by_cases h : wordB p = true ∧ rightB (T.nu p seq k v) = true
  · cases hg : mget T.prods p with
    | none =>
      have e : T.pub p seq k v = (T.added p seq k v, T.fin, 0) := by unfold Tp.pub; rw [if_pos h, hg]
      rw [e]
      exact pub_first w ok a bm rv T hT p seq k v h.1 h.2 hg hl hp hf0
    | some x =>
      obtain ⟨q, o⟩ := x
      by_cases hq : seq ≤ q
      · refine (pub_again w ok a bm rv T hT p seq k v h.1 h.2 q o hg hq).mono fun e w' ⟨he, hb⟩ => ?_
        by_cases hlt : seq < q
        · have e2 : T.pub p seq k v = (T, 0, 6) := by unfold Tp.pub; rw [if_pos h, hg]; simp only [if_pos hlt]
          rw [e2]
          rw [if_pos hlt, if_pos hlt] at he
          exact ⟨he, stay w' hb⟩
        · have hs : q = seq := by omega
          have e2 : T.pub p seq k v = (T, o, 0) := by unfold Tp.pub; rw [if_pos h, hg]; simp only [if_neg hlt, if_pos hs]
          rw [e2]
          rw [if_neg hlt, if_neg hlt] at he
          exact ⟨he, stay w' hb⟩
      · have e : T.pub p seq k v = (T.added p seq k v, T.fin, 0) := by
          unfold Tp.pub; rw [if_pos h, hg]; simp only [if_neg (show ¬ seq < q by omega), if_neg (show ¬ q = seq by omega)]
        rw [e]
        exact pub_later w ok a bm rv T hT p seq k v h.1 h.2 q o hg hq hl hp hf0
  · have e : T.pub p seq k v = (T, 0, 7) := by unfold Tp.pub; rw [if_neg h]
    rw [e]
    exact (pub_bad w ok a bm rv T hT p seq k v h).mono fun e w' ⟨he, hb⟩ => ⟨he, stay w' hb⟩
end Go.Proofs.YtdbnanniboiooaaDoor
