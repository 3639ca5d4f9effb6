/-
  topic.at finds the first record from an offset on; slices.Clone makes a new row of the same records.
  segment.Right answers whether a record may be one; topic.New makes a topic of a word.
  topic.Read tells records in a new row; topic.Trim takes the first ones away.
  topic.Trim takes the first records away.
-/
import Derived.Test.YtdbnanniboiooaaDoorZBase
import Derived.Deep.QuietTactic
import Derived.WalkSpells
import Derived.WalkLawsBesides
import Derived.Test.YtdbnanniboiooaaDoorWLast
import Derived.Test.YtdbnanniboiooaaDoorWMore
import Derived.Deep.RegionWith
import Derived.Deep.DeepFit
set_option linter.unusedVariables false
set_option linter.unusedSimpArgs false
namespace Go.Proofs.Carillon
/-- The first place from which on no offset is below 'off', where offsets rise. -/
def firstAt (l : List Rec) (off : Int) : Nat := (l.takeWhile fun r => decide (r.off < off)).length
theorem firstAt_le (l : List Rec) (off : Int) : firstAt l off ≤ l.length := (List.takeWhile_sublist _).length_le
def RecRise (l : List Rec) : Prop := l.Pairwise fun a b => a.off < b.off
theorem firstAt_spec {l : List Rec} (h : RecRise l) (off : Int) (i : Nat) (hi : i < l.length) : (firstAt l off ≤ i) ↔ off ≤ (l.getD i zRec).off := by
  unfold firstAt
  induction l generalizing i with
  | nil => simp at hi
  | cons r l ih =>
    obtain ⟨h1, h2⟩ := List.pairwise_cons.1 h
    by_cases hr : r.off < off
    · rw [List.takeWhile_cons_of_pos (by simpa using hr), List.length_cons]
      cases i with
      | zero => simp; omega
      | succ i =>
        have := ih h2 i (by simpa using hi)
        simp only [List.getD_cons_succ]
        rw [← this]; omega
    · rw [List.takeWhile_cons_of_neg (by simpa using hr)]
      cases i with
      | zero => simp; omega
      | succ i =>
        have hm : (l.getD i zRec) ∈ l := by
          have hi' : i < l.length := by simpa using hi
          rw [List.getD_eq_getElem?_getD, List.getElem?_eq_getElem hi']
          exact List.getElem_mem _
        have := h1 _ hm
        simp only [List.getD_cons_succ, List.length_nil, Nat.zero_le, true_iff]
        omega
end Go.Proofs.Carillon
namespace Go.Proofs.YtdbnanniboiooaaDoor
open Go.RowKit Go.Proofs.Carillon Go.Proofs.YtdbnanniboiooaaDoorW.PrintWords Go.Lib Go.Shelf

set_option maxHeartbeats 1000000 in
theorem at1_any (W : World) (b1 b2 a c n : Nat) (A : Option Addr) (l : List Rec) (off i : Int) (h1 : W.cell? ⟨b1, 0, none⟩ = some (.pointer (some ⟨a, 0, none⟩))) (h2 : W.cell? ⟨b2, 0, none⟩ = some (.int .i64 off))
    (h4 : W.cell? ⟨a, 4, none⟩ = some (.slice A n c)) (hC : RecsIn W A n l) (i0 : 0 ≤ i) (i1 : i < n) :
    Calls Tryd.prog 54 #[.int .i64 i, .pointer (some ⟨b1, 0, none⟩), .pointer (some ⟨b2, 0, none⟩)] W fun e w' => e = .returned (.bool (decide (off ≤ (l.getD i.toNat zRec).off))) ∧ Below W.heap.size W w' := by
  obtain ⟨ad, rfl, hc, _⟩ := rec_at hC i i0 i1
  obtain ⟨x, hx⟩ : ∃ x, (l.getD i.toNat zRec).off = x := ⟨_, rfl⟩
  rw [hx] at hc ⊢
  clear hx hC
  have hlt : decide (i < (n : Int)) = true := decide_eq_true i1
  go_enter Tryd.func54, Tryd.ntmps54
  go_wp2
  go_quiet (fail)
  go_wp2
  go_ret
  exact ⟨rfl, pw_below_drewN (Below.refl _ _) _⟩

set_option maxHeartbeats 1000000 in
theorem at_any (w : World) (a c n : Nat) (A : Option Addr) (l : List Rec) (off : Int) (hr : RecRise l) (hl : n ≤ 4611686018427387904)
    (h4 : w.cell? ⟨a, 4, none⟩ = some (.slice A n c)) (hC : RecsIn w A n l) :
    Calls Tryd.prog 30 #[.pointer (some ⟨a, 0, none⟩), .int .i64 off] w fun e w' => e = .returned (.int .i64 (firstAt l off)) ∧ Below w.heap.size w w' := by
  have eg := enters_of Tryd.func54 (by kernel_rfl) rfl
  have hs := search_any 54 #[.pointer (some ⟨w.heap.size, 0, none⟩), .pointer (some ⟨w.heap.size + 1, 0, none⟩)] eg n (firstAt l off) (hC.1 ▸ firstAt_le l off) hl
    ((w.alloc (.cells #[.pointer (some ⟨a, 0, none⟩)] 36)).alloc (.cells #[.int .i64 off] 3)) (fun W i i0 i1 hb => by
      have b1 : w.heap.size < ((w.alloc (.cells #[.pointer (some ⟨a, 0, none⟩)] 36)).alloc (.cells #[.int .i64 off] 3)).heap.size := by simp; omega
      have hb2 : Below w.heap.size w W := ((below_alloc (below_alloc (Below.refl _ _) _) _).trans (hb.mono (by simp; omega)))
      have g := at1_any W w.heap.size (w.heap.size + 1) a c n A l off i (below_at hb (by rw [Below.heap_alloc _ _ _ (by simp)]; exact heap_alloc_new w _) |> fun h => cell_blk h rfl)
        (below_at hb (by have := heap_alloc_new (w.alloc (.cells #[.pointer (some ⟨a, 0, none⟩)] 36)) (.cells #[.int .i64 off] 3); simpa using this) |> fun h => cell_blk h rfl)
        ((hb2.cell (World.block_lt_of_cell? w _ h4)).trans h4) (Kd.C_below hC hb2) i0 i1
      refine g.mono fun e w' ⟨he, hw⟩ => ⟨?_, hw⟩
      rw [he]
      have hsp := firstAt_spec hr off i.toNat (by have := hC.1; omega)
      congr 2
      rw [Bool.eq_iff_iff, decide_eq_true_iff, decide_eq_true_iff, ← hsp]
      omega)
  have ha : a < w.heap.size := World.block_lt_of_cell? w _ h4
  have h42 : ∀ o1 o2, ((w.alloc o1).alloc o2).cell? ⟨a, 4, none⟩ = some (.slice A n c) := fun o1 o2 => pw_cell_below (below_alloc (below_alloc (Below.refl _ _) _) _) h4
  go_enter Tryd.func30, Tryd.ntmps30
  go_wp2_with (go_at_call 53; refine hs.mono ?_; rintro e w1 ⟨rfl, hb⟩)
  go_ret
  exact ⟨rfl, (below_alloc (below_alloc (Below.refl _ _) _) _).trans (hb.mono (by simp; omega))⟩

set_option maxHeartbeats 1000000 in
theorem clone_any (w : World) (n c : Nat) (A : Option Addr) (l : List Rec) (hC : RecsIn w A n l) (hb : n ≤ 1000000) :
    Calls Tryd.prog 31 #[.slice A n c] w fun e w' => ∃ v, e = .returned v ∧ RecsAt w' (fun k => w.heap.size ≤ k) v l ∧ Below w.heap.size w w' := by
  have HB := Lib.hid hb
  clear hb
  cases A with
  | none =>
    obtain rfl : n = 0 := by
      rcases Nat.eq_zero_or_pos n with h | h
      · exact h
      · obtain ⟨ad, h, _⟩ := hC.2.2 h; cases h
    obtain rfl : l = [] := List.eq_nil_of_length_eq_zero hC.1
    have ke := fun W : World => Lib.run_eql_slice_nil (P := Tryd.prog) W 32 41
    go_enter Tryd.func31, Tryd.ntmps31
    go_wp2
    go_ret
    exact ⟨_, rfl, Kd.R_nil _ _ _ _ _, Below.refl _ _⟩
  | some ad =>
    have hE : RecsAt (w.alloc (.cells #[] 41)) (fun k => w.heap.size ≤ k) (.slice (some ⟨w.heap.size, 0, none⟩) 0 0) [] :=
      ⟨fun k hk => by simp [Value.ownBlock] at hk; omega, OwnRow.lit w 0 (Reps.none _ _) (Nat.zero_le _) (by simp)⟩
    have ke := fun W : World => Lib.run_eql_slice_nil (P := Tryd.prog) W 32 41
    go_enter Tryd.func31, Tryd.ntmps31
    go_wp2_with (at_builtin; refine Kd.R_append_rows kRec (w0 := w) (Rr := kRec.K (w.alloc (.cells #[] 41))) 0 rfl _ _ 32 41 _ 64 rfl Tryd.underlying32 infoRec rfl (by decide) (by decide) (.slice (some ⟨w.heap.size, 0, none⟩) 0 0) [] l (some ad) n c (fun k => w.heap.size ≤ k) (fun _ => False) rfl rfl hE (Kd.C_below hC (below_alloc (Below.refl _ _) _)) (fun _ _ h => h) (fun _ h => h.elim) (fun k hk => by simp at hk; omega) ((Below.refl _ _).alloc (Nat.zero_le _) _) (Nat.zero_le _) (by have := HB.out; simp; omega) ?_; intro v w1 hv hb0 hg hat)
    go_ret
    exact ⟨v, rfl, by simpa using hv, (below_alloc (Below.refl _ _) _).grown hg (by simp) (fun k hk => by simp [Value.ownBlock] at hk; omega)⟩
end Go.Proofs.YtdbnanniboiooaaDoor
namespace Go.Proofs.Carillon
def great : Int := 9007199254740991
def rightB (r : Rec) : Bool := decide (0 ≤ r.off) && decide (0 ≤ r.seq) && decide (r.off ≤ great) && decide (r.seq ≤ great) && decide (r.prod.size ≤ 20) && decide (r.key.size ≤ 100) && decide (r.val.size ≤ 1000)
end Go.Proofs.Carillon
namespace Go.Proofs.YtdbnanniboiooaaDoor
open Go.RowKit Go.Proofs.Carillon Go.Proofs.YtdbnanniboiooaaDoorW.PrintWords Go.Lib Go.Shelf
set_option maxHeartbeats 1000000 in
theorem segRight_any (r : Rec) (w : World) : Calls Tryd.prog 35 #[.agg #[.int .i64 r.off, .string r.prod, .int .i64 r.seq, .string r.key, .string r.val]] w fun e w' => e = .returned (.bool (rightB r)) ∧ Below w.heap.size w w' := by
  go_enter Tryd.func35, Tryd.ntmps35
  go_wp2
  all_goals
    go_ret
    refine ⟨congrArg (fun b => Ending.returned (.bool b)) ?_, below_alloc (Below.refl _ _) _⟩
    unfold rightB great
    rw [Bool.eq_iff_iff]
    simp
    omega

theorem mk_topic (w : World) (name : ByteArray) : TopicAt ((w.alloc (.map #[] 0)).alloc (.cells #[.string name, .int .i64 0, .int .i64 0, .map (some w.heap.size), .slice none 0 0] 82)) (fun k => w.heap.size ≤ k) (w.heap.size + 1) w.heap.size (.slice none 0 0) ⟨name, 0, 0, [], []⟩ := by
  refine ⟨?_, by omega, Nat.le_refl _, ?_, Kd.R_nil _ _ _ _ _⟩
  · have := heap_alloc_new (w.alloc (.map #[] 0)) (.cells #[.string name, .int .i64 0, .int .i64 0, .map (some w.heap.size), .slice none 0 0] 82)
    simpa using this
  · refine (MapOf.made w Tryd.prog 9 lastE).move ?_
    exact Below.heap_alloc _ _ _ (by simp)
set_option maxHeartbeats 1000000 in
theorem tNew_yes (s : ByteArray) (w : World) (h : wordB s = true) : Calls Tryd.prog 22 #[.string s] w fun e w' => ∃ a bm, e = .returned (.tuple #[.pointer (some ⟨a, 0, none⟩), .int .i64 0]) ∧ TopicAt w' (fun k => w.heap.size ≤ k) a bm (.slice none 0 0) ⟨s, 0, 0, [], []⟩ ∧ Below w.heap.size w w' := by
  have hmm := @run_makeMap Tryd.prog
  have hw := word_any s w
  rw [h] at hw
  clear h
  go_enter Tryd.func22, Tryd.ntmps22
  go_wp2_with (go_at_call 34; refine hw.mono ?_; rintro e w1 ⟨rfl, hb⟩)
  go_ret2
  exact ⟨_, _, rfl, (mk_topic w1 s).mono (fun k hk => Nat.le_trans hb.size hk), hb.trans ((below_alloc (below_alloc (Below.refl _ _) _) _).mono hb.size)⟩
set_option maxHeartbeats 1000000 in
theorem tNew_no (s : ByteArray) (w : World) (h : wordB s = false) : Calls Tryd.prog 22 #[.string s] w fun e w' => e = .returned (.tuple #[.pointer none, .int .i64 5]) ∧ Below w.heap.size w w' := by
  have hmm := @run_makeMap Tryd.prog
  have hw := word_any s w
  rw [h] at hw
  clear h
  go_enter Tryd.func22, Tryd.ntmps22
  go_wp2_with (go_at_call 34; refine hw.mono ?_; rintro e w1 ⟨rfl, hb⟩)
  go_ret2
  exact ⟨rfl, hb⟩
end Go.Proofs.YtdbnanniboiooaaDoor
namespace Go.Proofs.Carillon
def readT (l : List Rec) (off most : Int) : List Rec := (l.drop (firstAt l off)).take (min (max most 0) ((l.length - firstAt l off : Nat) : Int)).toNat
end Go.Proofs.Carillon
namespace Go.Proofs.YtdbnanniboiooaaDoor
open Go.RowKit Go.Proofs.Carillon Go.Proofs.YtdbnanniboiooaaDoorW.PrintWords Go.Lib Go.Shelf

theorem infoRec' : ∃ i, Tryd.prog.info? 41 = some i ∧ i.size = 5 := by
  obtain ⟨i, hi, h⟩ := Option.map_eq_some_iff.1 infoRec
  simp only [Prod.mk.injEq] at h
  exact ⟨i, hi, h.2.1⟩

set_option maxHeartbeats 2000000 in
theorem read_any (w : World) (ok : Nat → Prop) (a bm : Nat) (rv : Value) (T : Tp) (hT : TopicAt w ok a bm rv T) (hr : RecRise T.recs) (hl : T.recs.length ≤ 1000000) (off most : Int) :
    Calls Tryd.prog 12 #[.pointer (some ⟨a, 0, none⟩), .int .i64 off, .int .i64 most] w fun e w' => ∃ v, e = .returned v ∧ RecsAt w' (fun k => w.heap.size ≤ k) v (readT T.recs off most) ∧ Below w.heap.size w w' := by
  obtain ⟨A, c, rfl, hlc, hC⟩ := Kd.R_reads hT.recs
  have h4 : w.cell? ⟨a, 4, none⟩ = some (.slice A T.recs.length c) := cell_blk hT.blk rfl
  have hw1 : ∀ W, Below w.heap.size w W → W.cell? ⟨a, 4, none⟩ = some (.slice A T.recs.length c) := fun W hb => pw_cell_below hb h4
  have hat : ∀ W, Below w.heap.size w W → Calls Tryd.prog 30 #[.pointer (some ⟨a, 0, none⟩), .int .i64 off] W fun e w' => e = .returned (.int .i64 (firstAt T.recs off)) ∧ Below w.heap.size w w' :=
    fun W hb => (at_any W a c _ A T.recs off hr (by omega) (hw1 W hb) (Kd.C_below hC hb)).mono fun _ _ h => ⟨h.1, below_step hb h.2⟩
  have hk := firstAt_le T.recs off
  obtain ⟨k, hk'⟩ : ∃ k, firstAt T.recs off = k := ⟨_, rfl⟩
  obtain ⟨i, hi, hisz⟩ := infoRec'
  have hcut := cut_from (P := Tryd.prog) 32 41 .i64 Tryd.underlying32 hi 5 hisz A T.recs.length c (k : Int) (by omega) (by omega)
  have hD : ∀ W, Below w.heap.size w W → RecsIn W (if c = k then A else A.map (·.add (k * 5))) (T.recs.length - k) (T.recs.drop k) := fun W hb => by
    have := Kd.C_drop (Kd.C_below hC hb) (m := k) (by omega) hlc
    rwa [List.length_drop] at this
  rw [Int.toNat_natCast] at hcut
  obtain ⟨A1, hA1⟩ : ∃ A1, (if c = k then A else A.map (·.add (k * 5))) = A1 := ⟨_, rfl⟩
  obtain ⟨q, hq⟩ : ∃ q, T.recs.length - k = q := ⟨_, rfl⟩
  obtain ⟨d, hd⟩ : ∃ d, c - k = d := ⟨_, rfl⟩
  rw [hA1, hq, hd] at hcut
  have hD' : ∀ W, Below w.heap.size w W → RecsIn W A1 q (T.recs.drop k) := fun W hb => by have := hD W hb; rw [hA1, hq] at this; exact this
  obtain ⟨m, hm⟩ : ∃ m : Nat, (min (max most 0) (q : Int)) = (m : Int) := ⟨(min (max most 0) (q : Int)).toNat, by omega⟩
  have hmq : m ≤ q := by omega
  have hqd : q ≤ d := by omega
  have hcut2 := cut_to (P := Tryd.prog) 32 41 .i64 Tryd.underlying32 hi A1 q d (m : Int) (by omega) (by omega) hqd
  rw [Int.toNat_natCast] at hcut2
  have hres : readT T.recs off most = (T.recs.drop k).take m := by
    unfold readT
    rw [hk', hq, hm, Int.toNat_natCast]
  have hcl : ∀ W, Below w.heap.size w W → Calls Tryd.prog 31 #[.slice A1 m d] W fun e w' => ∃ v, e = .returned v ∧ RecsAt w' (fun k => w.heap.size ≤ k) v ((T.recs.drop k).take m) ∧ Below w.heap.size w w' :=
    fun W hb => (clone_any W m d A1 _ (by
      have h1 := hD' W hb
      have hl' : (T.recs.drop k).length = q := h1.1
      have := Kd.C_take (m := m) (by rw [hl']; exact h1) (by omega)
      rw [List.length_take, hl', Nat.min_eq_left hmq] at this
      exact this) (by omega)).mono fun _ _ ⟨v, h1, h2, h3⟩ => ⟨v, h1, Kd.R_mono h2 (fun _ h => Nat.le_trans hb.size h), below_step hb h3⟩
  rw [hk'] at hat
  rw [hres]
  have H1 := Lib.hid hat
  have H2 := Lib.hid hcl
  have H3 := Lib.hid hw1
  have HM := Lib.hid hm
  generalize T.recs.length = n at *
  clear hat hcl hw1 hD hD' hA1 hq hd hres hk' hC hm hi hT
  go_enter Tryd.func12, Tryd.ntmps12
  go_wp2
  go_region_with (go_at_call 30; refine (H1.out _ (by first | exact Below.refl _ _ | exact pw_below_drewN (Below.refl _ _) _ | exact below_drew (Below.refl _ _))).mono ?_; rintro e w1 ⟨rfl, hb⟩; have hc1 := H3.out w1 hb)
  all_goals
    have hm := HM.out
    go_wp2_with (go_at_call 31; refine (H2.out _ hb).mono ?_; rintro e w2 ⟨v, rfl, hv, hb2⟩)
    go_ret
    exact ⟨v, rfl, hv, hb2⟩
end Go.Proofs.YtdbnanniboiooaaDoor
namespace Go.Proofs.Carillon
def Tp.trim (T : Tp) (n : Int) : Tp × Int :=
  if T.fin < n then (T, 7) else if T.low < n then ({ T with recs := T.recs.drop (firstAt T.recs n), low := n }, 0) else (T, 0)
end Go.Proofs.Carillon
namespace Go.Proofs.YtdbnanniboiooaaDoor
open Go.RowKit Go.Proofs.Carillon Go.Proofs.YtdbnanniboiooaaDoorW.PrintWords Go.Lib Go.Shelf

/-- The blocks that were a topic's, and new ones. -/
def more (ok : Nat → Prop) (w : World) : Nat → Prop := fun k => ok k ∨ w.heap.size ≤ k

/-- A topic stands there. -/
def TopicHere (w : World) (ok : Nat → Prop) (a : Nat) (T : Tp) : Prop := ∃ bm rv, TopicAt w ok a bm rv T
theorem TopicAt.here {w : World} {ok : Nat → Prop} {a bm : Nat} {rv : Value} {T : Tp} (h : TopicAt w ok a bm rv T) : TopicHere w ok a T := ⟨_, _, h⟩
theorem TopicHere.mono {w : World} {ok ok1 : Nat → Prop} {a : Nat} {T : Tp} (h : TopicHere w ok a T) (ho : ∀ k, ok k → ok1 k) : TopicHere w ok1 a T := by
  obtain ⟨bm, rv, h⟩ := h; exact ⟨bm, rv, h.mono ho⟩
theorem TopicHere.move {w w1 : World} {ok : Nat → Prop} {a : Nat} {T : Tp} (h : TopicHere w ok a T) (hm : ∀ k, ok k → k < w.heap.size → w1.heap[k]? = w.heap[k]?) : TopicHere w1 ok a T := by
  obtain ⟨bm, rv, h⟩ := h; exact ⟨bm, rv, h.move hm⟩
theorem TopicHere.below {w w1 : World} {ok : Nat → Prop} {a : Nat} {T : Tp} (h : TopicHere w ok a T) (hb : Below w.heap.size w w1) : TopicHere w1 ok a T := h.move (fun k _ hk => hb.block k hk)
theorem Turned.of_cell {ok : Nat → Prop} {w : World} (b j : Nat) (u : Value) (h : ok b) : Turned ok w (w.setCell ⟨b, j, none⟩ u) := Turned.of_set _ _ h

section
variable {w : World} {ok : Nat → Prop} {a bm : Nat} {rv : Value} {T : Tp}
theorem TopicAt.put_recs (h : TopicAt w ok a bm rv T) {v : Value} {l : List Rec} (hv : RecsAt w ok v l) : TopicAt (w.setCell ⟨a, 4, none⟩ v) ok a bm v { T with recs := l } := by
  obtain ⟨es, c, hm⟩ := h.map.isMap
  have hne : bm ≠ a := fun e => by rw [e, h.blk] at hm; cases hm
  exact ⟨blk_put h.blk 4 v rfl, h.oka, h.okm, h.map.move (Below.heap_setCell _ _ _ _ hne), Kd.R_set hv h.blk (by intro q hq; simp only [kRec, flat, List.mem_cons, List.not_mem_nil, or_false] at hq; subst hq; decide) 4 v⟩
theorem TopicAt.put_low (h : TopicAt w ok a bm rv T) (n : Int) : TopicAt (w.setCell ⟨a, 1, none⟩ (.int .i64 n)) ok a bm rv { T with low := n } := by
  obtain ⟨es, c, hm⟩ := h.map.isMap
  have hne : bm ≠ a := fun e => by rw [e, h.blk] at hm; cases hm
  exact ⟨blk_put h.blk 1 _ rfl, h.oka, h.okm, h.map.move (Below.heap_setCell _ _ _ _ hne), Kd.R_set h.recs h.blk (by intro q hq; simp only [kRec, flat, List.mem_cons, List.not_mem_nil, or_false] at hq; subst hq; decide) 1 _⟩
theorem TopicAt.put_fin (h : TopicAt w ok a bm rv T) (n : Int) : TopicAt (w.setCell ⟨a, 2, none⟩ (.int .i64 n)) ok a bm rv { T with fin := n } := by
  obtain ⟨es, c, hm⟩ := h.map.isMap
  have hne : bm ≠ a := fun e => by rw [e, h.blk] at hm; cases hm
  exact ⟨blk_put h.blk 2 _ rfl, h.oka, h.okm, h.map.move (Below.heap_setCell _ _ _ _ hne), Kd.R_set h.recs h.blk (by intro q hq; simp only [kRec, flat, List.mem_cons, List.not_mem_nil, or_false] at hq; subst hq; decide) 2 _⟩
theorem TopicAt.c0 (h : TopicAt w ok a bm rv T) : w.cell? ⟨a, 0, none⟩ = some (.string T.name) := cell_blk h.blk rfl
theorem TopicAt.c1 (h : TopicAt w ok a bm rv T) : w.cell? ⟨a, 1, none⟩ = some (.int .i64 T.low) := cell_blk h.blk rfl
theorem TopicAt.c2 (h : TopicAt w ok a bm rv T) : w.cell? ⟨a, 2, none⟩ = some (.int .i64 T.fin) := cell_blk h.blk rfl
theorem TopicAt.c3 (h : TopicAt w ok a bm rv T) : w.cell? ⟨a, 3, none⟩ = some (.map (some bm)) := cell_blk h.blk rfl
theorem TopicAt.c4 (h : TopicAt w ok a bm rv T) : w.cell? ⟨a, 4, none⟩ = some rv := cell_blk h.blk rfl
theorem TopicAt.free (h : TopicAt w ok a bm rv T) (j : Nat) : w.frozen? ⟨a, j, none⟩ = false := free_blk h.blk
end

set_option maxHeartbeats 2000000 in
theorem trim_cut (w : World) (ok : Nat → Prop) (a bm : Nat) (rv : Value) (T : Tp) (hT : TopicAt w ok a bm rv T) (hr : RecRise T.recs) (hl : T.recs.length ≤ 1000000) (n : Int) (h1 : ¬ T.fin < n) (h2 : T.low < n) :
    Calls Tryd.prog 24 #[.pointer (some ⟨a, 0, none⟩), .int .i64 n] w fun e w' => e = .returned (.int .i64 0) ∧ TopicHere w' (more ok w) a { T with recs := T.recs.drop (firstAt T.recs n), low := n } ∧ Turned ok w w' := by
  obtain ⟨A, c, rfl, hlc, hC⟩ := Kd.R_reads hT.recs
  have hw1 : ∀ W, Below w.heap.size w W → W.cell? ⟨a, 4, none⟩ = some (.slice A T.recs.length c) := fun W hb => (hT.below hb).c4
  have hat : ∀ W, Below w.heap.size w W → Calls Tryd.prog 30 #[.pointer (some ⟨a, 0, none⟩), .int .i64 n] W fun e w' => e = .returned (.int .i64 (firstAt T.recs n)) ∧ Below w.heap.size w w' :=
    fun W hb => (at_any W a c _ A T.recs n hr (by omega) (hw1 W hb) (Kd.C_below hC hb)).mono fun _ _ h => ⟨h.1, below_step hb h.2⟩
  have hk := firstAt_le T.recs n
  obtain ⟨k, hk'⟩ : ∃ k, firstAt T.recs n = k := ⟨_, rfl⟩
  obtain ⟨i, hi, hisz⟩ := infoRec'
  have hcut := cut_from (P := Tryd.prog) 32 41 .i64 Tryd.underlying32 hi 5 hisz A T.recs.length c (k : Int) (by omega) (by omega)
  have hD : ∀ W, Below w.heap.size w W → RecsIn W (if c = k then A else A.map (·.add (k * 5))) (T.recs.length - k) (T.recs.drop k) := fun W hb => by
    have := Kd.C_drop (Kd.C_below hC hb) (m := k) (by omega) hlc
    rwa [List.length_drop] at this
  rw [Int.toNat_natCast] at hcut
  obtain ⟨A1, hA1⟩ : ∃ A1, (if c = k then A else A.map (·.add (k * 5))) = A1 := ⟨_, rfl⟩
  obtain ⟨q, hq⟩ : ∃ q, T.recs.length - k = q := ⟨_, rfl⟩
  obtain ⟨d, hd⟩ : ∃ d, c - k = d := ⟨_, rfl⟩
  rw [hA1, hq, hd] at hcut
  have hD' : ∀ W, Below w.heap.size w W → RecsIn W A1 q (T.recs.drop k) := fun W hb => by have := hD W hb; rw [hA1, hq] at this; exact this
  have hcl : ∀ W, Below w.heap.size w W → Calls Tryd.prog 31 #[.slice A1 q d] W fun e w' => ∃ A2 n2 c2, e = .returned (.slice A2 n2 c2) ∧ RecsAt w' (fun k => w.heap.size ≤ k) (.slice A2 n2 c2) (T.recs.drop k) ∧ Below w.heap.size w w' :=
    fun W hb => (clone_any W q d A1 _ (hD' W hb) (by omega)).mono fun _ _ ⟨v, h1, h2, h3⟩ => by
      obtain ⟨A2, c2, rfl⟩ := Kd.R_slice h2
      exact ⟨A2, _, c2, h1, Kd.R_mono h2 (fun _ h => Nat.le_trans hb.size h), below_step hb h3⟩
  rw [hk'] at hat ⊢
  have H1 := Lib.hid hat
  have H2 := Lib.hid hcl
  have H3 := Lib.hid hw1
  have HT := Lib.hid hT
  have c1 := hT.c1
  have c2 := hT.c2
  have c4 := hT.c4
  obtain ⟨lo, hlo⟩ : ∃ lo, T.low = lo := ⟨_, rfl⟩
  obtain ⟨fi, hfi⟩ : ∃ fi, T.fin = fi := ⟨_, rfl⟩
  rw [hlo] at c1 h2
  rw [hfi] at c2 h1
  generalize T.recs.length = nl at *
  clear hat hcl hw1 hD hD' hA1 hq hd hk' hC hi hT hlo hfi
  go_enter Tryd.func24, Tryd.ntmps24
  go_wp2
  go_region_with (first | (go_at_call 30; refine (H1.out _ (by first | exact Below.refl _ _ | exact pw_below_drewN (Below.refl _ _) _ | exact below_drew (Below.refl _ _))).mono ?_; rintro e w1 ⟨rfl, hb⟩; have hc1 := H3.out w1 hb) | (go_at_call 31; refine (H2.out _ hb).mono ?_; rintro e w2 ⟨A2, n2, c2', rfl, hv, hb2⟩; have hc2 := H3.out w2 hb2; have hf2 := (HT.out.below hb2).free 4))
  all_goals
    have hT2 := ((HT.out.below hb2).mono (ok1 := more ok w) (fun k hk => .inl hk)).put_recs (Kd.R_mono hv (fun k hk => .inr hk))
    have d1 := hT2.c1
    have f1 := hT2.free 1
    have hh := Lib.hid hT2
    clear hT2
    go_wp2
    go_ret
    exact ⟨rfl, (hh.out.put_low n).here, (((Turned.of_below hb2).trans (Turned.of_cell (ok := ok) a 4 _ HT.out.oka) (fun _ h => .inl h)).trans (Turned.of_cell (ok := ok) a 1 _ HT.out.oka) (fun _ h => .inl h))⟩

set_option maxHeartbeats 2000000 in
theorem trim_any (w : World) (ok : Nat → Prop) (a bm : Nat) (rv : Value) (T : Tp) (hT : TopicAt w ok a bm rv T) (hr : RecRise T.recs) (hl : T.recs.length ≤ 1000000) (n : Int) :
    Calls Tryd.prog 24 #[.pointer (some ⟨a, 0, none⟩), .int .i64 n] w fun e w' => e = .returned (.int .i64 (T.trim n).2) ∧ TopicHere w' (more ok w) a (T.trim n).1 ∧ Turned ok w w' := by
  unfold Tp.trim
  by_cases h1 : T.fin < n
  · rw [if_pos h1]
    have c2 := hT.c2
    have HT := Lib.hid hT
    clear hT
    go_enter Tryd.func24, Tryd.ntmps24
    go_wp2
    go_ret
    exact ⟨rfl, (HT.out.mono (fun _ h => .inl h)).here, Turned.refl _ _⟩
  · rw [if_neg h1]
    by_cases h2 : T.low < n
    · rw [if_pos h2]
      exact trim_cut w ok a bm rv T hT hr hl n h1 h2
    · rw [if_neg h2]
      have c1 := hT.c1
      have c2 := hT.c2
      have HT := Lib.hid hT
      clear hT
      go_enter Tryd.func24, Tryd.ntmps24
      go_wp2
      go_ret
      exact ⟨rfl, (HT.out.mono (fun _ h => .inl h)).here, Turned.refl _ _⟩
end Go.Proofs.YtdbnanniboiooaaDoor
