/-
  A topic of the call's own: what the methods do with it, what it was ahead of the call being as it was.
  The examples of chapter 15 are so.
-/
import Derived.Test.YtdbnanniboiooaaDoorZPub
import Derived.Test.YtdbnanniboiooaaDoorZLaw
set_option linter.unusedVariables false
set_option linter.unusedSimpArgs false
namespace Go.Proofs.YtdbnanniboiooaaDoor
open Go.RowKit Go.Proofs.Carillon Go.Proofs.YtdbnanniboiooaaDoorW.PrintWords Go.Lib Go.Shelf
theorem TopicHere.bound {w : World} {ok : Nat → Prop} {a : Nat} {T : Tp} (h : TopicHere w ok a T) : TopicHere w (fun k => ok k ∧ k < w.heap.size) a T := by
  obtain ⟨bm, rv, h⟩ := h
  exact ⟨bm, rv, h.blk, ⟨h.oka, blk_lt h.blk⟩, ⟨h.okm, h.map.lt⟩, h.map, Kd.R_mono (Kd.R_bound h.recs) (fun _ hk => ⟨hk.1, hk.2.2.1⟩)⟩
/-- A topic at a, of blocks from B on; what was below B in w0 is as it was. -/
structure Own (w0 : World) (w : World) (a : Nat) (T : Tp) : Prop where
  here : TopicHere w (fun k => w0.heap.size ≤ k) a T
  below : Below w0.heap.size w0 w
theorem below_turned {w0 w w1 : World} {ok : Nat → Prop} (hb : Below w0.heap.size w0 w) (ht : Turned ok w w1) (hok : ∀ k, ok k → w0.heap.size ≤ k) : Below w0.heap.size w0 w1 :=
  ((Turned.of_below (ok := fun _ => False) hb).trans ht (fun i hi => .inr (hok i hi))).below
theorem Own.step {w0 w w1 : World} {a : Nat} {T T1 : Tp} (h : Own w0 w a T) (h1 : TopicHere w1 (more (fun k => w0.heap.size ≤ k) w) a T1) (ht : Turned (fun k => w0.heap.size ≤ k) w w1) : Own w0 w1 a T1 :=
  ⟨h1.mono (fun k hk => hk.elim id (fun hk => Nat.le_trans h.below.size hk)), below_turned h.below ht (fun _ hk => hk)⟩
theorem Own.later {w0 w w1 : World} {a : Nat} {T : Tp} (h : Own w0 w a T) (hb : Below w.heap.size w w1) : Own w0 w1 a T := ⟨h.here.below hb, below_step h.below hb⟩

/-- Two topics, apart. -/
structure Own2 (w0 : World) (w : World) (a : Nat) (T : Tp) (b : Nat) (U : Tp) : Prop where
  both : ∃ ok1 ok2 : Nat → Prop, (∀ k, ok1 k → w0.heap.size ≤ k) ∧ (∀ k, ok2 k → w0.heap.size ≤ k) ∧ (∀ k, ok1 k → ok2 k → False) ∧ TopicHere w ok1 a T ∧ TopicHere w ok2 b U
  below : Below w0.heap.size w0 w
theorem Own2.swap {w0 w : World} {a b : Nat} {T U : Tp} (h : Own2 w0 w a T b U) : Own2 w0 w b U a T := by
  obtain ⟨⟨o1, o2, h1, h2, h3, h4, h5⟩, hb⟩ := h
  exact ⟨⟨o2, o1, h2, h1, fun k x y => h3 k y x, h5, h4⟩, hb⟩
theorem Own2.later {w0 w w1 : World} {a b : Nat} {T U : Tp} (h : Own2 w0 w a T b U) (hb : Below w.heap.size w w1) : Own2 w0 w1 a T b U := by
  obtain ⟨⟨o1, o2, h1, h2, h3, h4, h5⟩, hb0⟩ := h
  exact ⟨⟨o1, o2, h1, h2, h3, h4.below hb, h5.below hb⟩, below_step hb0 hb⟩
theorem Own2.of {w0 w w1 : World} {a b : Nat} {T U : Tp} (h : Own w0 w a T) (hb : Below w.heap.size w w1) (h2 : TopicHere w1 (fun k => w.heap.size ≤ k) b U) : Own2 w0 w1 a T b U :=
  ⟨⟨_, _, fun _ hk => hk.1, fun k hk => Nat.le_trans h.below.size hk, fun k x y => by have := x.2; omega, h.here.bound.below hb, h2⟩, below_step h.below hb⟩
theorem Own2.step {w0 w w1 : World} {a b : Nat} {U T1 : Tp} {ok1 ok2 : Nat → Prop} (hb : Below w0.heap.size w0 w) (h1 : ∀ k, ok1 k → w0.heap.size ≤ k) (h2 : ∀ k, ok2 k → w0.heap.size ≤ k) (h3 : ∀ k, ok1 k → ok2 k → False) (h5 : TopicHere w ok2 b U)
    (hn : TopicHere w1 (more ok1 w) a T1) (ht : Turned ok1 w w1) : Own2 w0 w1 a T1 b U :=
  ⟨⟨more ok1 w, _, fun k hk => hk.elim (h1 k) (fun hk => Nat.le_trans hb.size hk), fun k hk => h2 k hk.1, fun k x y => x.elim (fun x => h3 k x y.1) (fun x => by have := y.2; omega), hn,
    h5.bound.move (fun k hk hlt => ht.block k hlt (fun x => h3 k x hk.1))⟩, below_turned hb ht h1⟩

theorem pub_own {w0 w : World} {a : Nat} {T : Tp} (h : Own w0 w a T) (p : ByteArray) (seq : Int) (k v : ByteArray) (n : Nat) (hf : T.Fine n) (hn : n ≤ 100000) :
    Calls Tryd.prog 23 #[.pointer (some ⟨a, 0, none⟩), .string p, .int .i64 seq, .string k, .string v] w fun e w' => e = .returned (.tuple #[.int .i64 (T.pub p seq k v).2.1, .int .i64 (T.pub p seq k v).2.2]) ∧ Own w0 w' a (T.pub p seq k v).1 :=
  (pub_any w _ a T h.here p seq k v (by have := hf.recs; omega) (by have := hf.prods; omega) (by have := hf.good.low0; have := hf.good.low1; omega)).mono fun _ _ ⟨h1, h2, h3⟩ => ⟨h1, h.step h2 h3⟩
theorem pub_own2 {w0 w : World} {a b : Nat} {T U : Tp} (h : Own2 w0 w a T b U) (p : ByteArray) (seq : Int) (k v : ByteArray) (n : Nat) (hf : T.Fine n) (hn : n ≤ 100000) :
    Calls Tryd.prog 23 #[.pointer (some ⟨a, 0, none⟩), .string p, .int .i64 seq, .string k, .string v] w fun e w' => e = .returned (.tuple #[.int .i64 (T.pub p seq k v).2.1, .int .i64 (T.pub p seq k v).2.2]) ∧ Own2 w0 w' a (T.pub p seq k v).1 b U := by
  obtain ⟨⟨o1, o2, h1, h2, h3, h4, h5⟩, hb⟩ := h
  exact (pub_any w _ a T h4 p seq k v (by have := hf.recs; omega) (by have := hf.prods; omega) (by have := hf.good.low0; have := hf.good.low1; omega)).mono fun _ _ ⟨k1, k2, k3⟩ => ⟨k1, Own2.step hb h1 h2 h3 h5 k2 k3⟩
theorem trim_own {w0 w : World} {a : Nat} {T : Tp} (h : Own w0 w a T) (m : Int) (n : Nat) (hf : T.Fine n) (hn : n ≤ 100000) :
    Calls Tryd.prog 24 #[.pointer (some ⟨a, 0, none⟩), .int .i64 m] w fun e w' => e = .returned (.int .i64 (T.trim m).2) ∧ Own w0 w' a (T.trim m).1 := by
  obtain ⟨bm, rv, hT⟩ := h.here
  exact (trim_any w _ a bm rv T hT hf.good.rrise (by have := hf.recs; omega) m).mono fun _ _ ⟨h1, h2, h3⟩ => ⟨h1, h.step h2 h3⟩
theorem compact_own {w0 w : World} {a : Nat} {T : Tp} (h : Own w0 w a T) (m : Int) (n : Nat) (hf : T.Fine n) (hn : n ≤ 100000) :
    Calls Tryd.prog 32 #[.pointer (some ⟨a, 0, none⟩), .int .i64 m] w fun e w' => e = .returned (.int .i64 0) ∧ Own w0 w' a (T.compact m) :=
  (compact_any w _ a T h.here (by have := hf.recs; omega) (fun r hr => by have := right_sizes (hf.good.recs r hr).1; omega) m).mono fun _ _ ⟨h1, h2, h3⟩ => ⟨h1, h.step h2 h3⟩
theorem read_own {w0 w : World} {a : Nat} {T : Tp} (h : Own w0 w a T) (off most : Int) (n : Nat) (hf : T.Fine n) (hn : n ≤ 100000) :
    Calls Tryd.prog 12 #[.pointer (some ⟨a, 0, none⟩), .int .i64 off, .int .i64 most] w fun e w' => ∃ v, e = .returned v ∧ RecsAt w' (fun k => w.heap.size ≤ k) v (readT T.recs off most) ∧ Own w0 w' a T ∧ Below w.heap.size w w' := by
  obtain ⟨bm, rv, hT⟩ := h.here
  exact (read_any w _ a bm rv T hT hf.good.rrise (by have := hf.recs; omega) off most).mono fun _ _ ⟨v, h1, h2, h3⟩ => ⟨v, h1, h2, h.later h3, h3⟩
theorem low_any (w : World) (a : Nat) (lo : Int) (hc : w.cell? ⟨a, 1, none⟩ = some (.int .i64 lo)) : Calls Tryd.prog 19 #[.pointer (some ⟨a, 0, none⟩)] w fun e w' => e = .returned (.int .i64 lo) ∧ w = w' := by
  go_enter Tryd.func19, Tryd.ntmps19
  go_wp2
  go_ret
  exact ⟨rfl, rfl⟩
theorem end_any (w : World) (a : Nat) (fi : Int) (hc : w.cell? ⟨a, 2, none⟩ = some (.int .i64 fi)) : Calls Tryd.prog 20 #[.pointer (some ⟨a, 0, none⟩)] w fun e w' => e = .returned (.int .i64 fi) ∧ w = w' := by
  go_enter Tryd.func20, Tryd.ntmps20
  go_wp2
  go_ret
  exact ⟨rfl, rfl⟩
theorem Own.c1 {w0 w : World} {a : Nat} {T : Tp} (h : Own w0 w a T) : w.cell? ⟨a, 1, none⟩ = some (.int .i64 T.low) := by obtain ⟨_, _, h⟩ := h.here; exact h.c1
theorem Own.c2 {w0 w : World} {a : Nat} {T : Tp} (h : Own w0 w a T) : w.cell? ⟨a, 2, none⟩ = some (.int .i64 T.fin) := by obtain ⟨_, _, h⟩ := h.here; exact h.c2
theorem new_yes {w0 w : World} (hb : Below w0.heap.size w0 w) (s : ByteArray) (h : wordB s = true) : Calls Tryd.prog 22 #[.string s] w fun e w' => ∃ a, e = .returned (.tuple #[.pointer (some ⟨a, 0, none⟩), .int .i64 0]) ∧ Own w0 w' a ⟨s, 0, 0, [], []⟩ :=
  (tNew_yes s w h).mono fun _ _ ⟨a, bm, h1, h2, h3⟩ => ⟨a, h1, ⟨(h2.mono (fun k hk => Nat.le_trans hb.size hk)).here, below_step hb h3⟩⟩
end Go.Proofs.YtdbnanniboiooaaDoor
namespace Go.Proofs.YtdbnanniboiooaaDoor
open Go.RowKit Go.Proofs.Carillon Go.Proofs.YtdbnanniboiooaaDoorW.PrintWords Go.Lib Go.Shelf
/-- A topic, and records that were read, apart. -/
structure OwnR (w0 : World) (w : World) (a : Nat) (T : Tp) (v : Value) (l : List Rec) : Prop where
  both : ∃ ok1 ok2 : Nat → Prop, (∀ k, ok1 k → w0.heap.size ≤ k) ∧ (∀ k, ok1 k → ok2 k → False) ∧ TopicHere w ok1 a T ∧ RecsAt w ok2 v l
  below : Below w0.heap.size w0 w
theorem OwnR.own {w0 w : World} {a : Nat} {T : Tp} {v : Value} {l : List Rec} (h : OwnR w0 w a T v l) : Own w0 w a T := by
  obtain ⟨⟨o1, o2, h1, h3, h4, h5⟩, hb⟩ := h
  exact ⟨h4.mono h1, hb⟩
theorem OwnR.recs {w0 w : World} {a : Nat} {T : Tp} {v : Value} {l : List Rec} (h : OwnR w0 w a T v l) : RecsAt w (fun _ => True) v l := by
  obtain ⟨⟨o1, o2, h1, h3, h4, h5⟩, hb⟩ := h
  exact Kd.R_mono h5 (fun _ _ => trivial)
theorem OwnR.step {w0 w w1 : World} {a : Nat} {T1 : Tp} {v : Value} {l : List Rec} {ok1 ok2 : Nat → Prop} (hb : Below w0.heap.size w0 w) (h1 : ∀ k, ok1 k → w0.heap.size ≤ k) (h3 : ∀ k, ok1 k → ok2 k → False) (h5 : RecsAt w ok2 v l)
    (hn : TopicHere w1 (more ok1 w) a T1) (ht : Turned ok1 w w1) : OwnR w0 w1 a T1 v l :=
  ⟨⟨more ok1 w, fun k => ok2 k ∧ k < w.heap.size, fun k hk => hk.elim (h1 k) (fun hk => Nat.le_trans hb.size hk), fun k x y => x.elim (fun x => h3 k x y.1) (fun x => by have := y.2; omega), hn,
    Kd.R_move (Kd.R_mono (Kd.R_bound h5) (fun k hk => ⟨hk.1, hk.2.2.1⟩)) (fun k hk => ht.block k hk.2 (fun x => h3 k x hk.1))⟩, below_turned hb ht h1⟩
theorem read_ownR {w0 w : World} {a : Nat} {T : Tp} (h : Own w0 w a T) (off most : Int) (n : Nat) (hf : T.Fine n) (hn : n ≤ 100000) :
    Calls Tryd.prog 12 #[.pointer (some ⟨a, 0, none⟩), .int .i64 off, .int .i64 most] w fun e w' => ∃ v, e = .returned v ∧ OwnR w0 w' a T v (readT T.recs off most) := by
  obtain ⟨bm, rv, hT⟩ := h.here.bound
  exact (read_any w _ a bm rv T hT hf.good.rrise (by have := hf.recs; omega) off most).mono fun _ _ ⟨v, h1, h2, h3⟩ => ⟨v, h1, ⟨⟨_, _, fun _ hk => hk.1, fun k x y => by have := x.2; omega, (hT.below h3).here, h2⟩, below_step h.below h3⟩⟩
theorem trim_ownR {w0 w : World} {a : Nat} {T : Tp} {v : Value} {l : List Rec} (h : OwnR w0 w a T v l) (m : Int) (n : Nat) (hf : T.Fine n) (hn : n ≤ 100000) :
    Calls Tryd.prog 24 #[.pointer (some ⟨a, 0, none⟩), .int .i64 m] w fun e w' => e = .returned (.int .i64 (T.trim m).2) ∧ OwnR w0 w' a (T.trim m).1 v l := by
  obtain ⟨⟨o1, o2, h1, h3, h4, h5⟩, hb⟩ := h
  obtain ⟨bm, rv, hT⟩ := h4
  exact (trim_any w _ a bm rv T hT hf.good.rrise (by have := hf.recs; omega) m).mono fun _ _ ⟨k1, k2, k3⟩ => ⟨k1, OwnR.step hb h1 h3 h5 k2 k3⟩

theorem keepL_sub (l : List Rec) (upto : Int) : (keepL l upto).Sublist l := by
  have h : (List.range l.length).map (fun i => l.getD i zRec) = l := by
    apply List.ext_getElem?
    intro i
    rcases Nat.lt_or_ge i l.length with hi | hi
    · rw [List.getElem?_map, List.getElem?_range hi, Option.map_some, List.getD_eq_getElem?_getD, List.getElem?_eq_getElem hi]; rfl
    · rw [List.getElem?_eq_none (by simpa using hi), List.getElem?_eq_none hi]
  conv => rhs; rw [← h]
  exact List.Sublist.map _ List.filter_sublist
theorem fine_compact {T : Tp} {k : Nat} (h : T.Fine k) (n : Int) : (T.compact n).Fine k := by
  have g := h.good
  refine ⟨⟨g.name, g.low0, g.low1, g.fin1, g.prise, g.prods, List.Pairwise.sublist (keepL_sub _ _) g.rrise, fun r hr => g.recs r ((keepL_sub _ _).subset hr)⟩, h.fin, h.prods, ?_⟩
  exact Nat.le_trans (keepL_sub _ _).length_le h.recs

def exP : ByteArray := ⟨#[112]⟩
def exK : ByteArray := ⟨#[107]⟩
def exR0 : Rec := ⟨0, ⟨#[112]⟩, 1, ⟨#[107]⟩, ⟨#[118]⟩⟩
def exR1 : Rec := ⟨1, ⟨#[112]⟩, 5, ⟨#[107]⟩, ⟨#[120]⟩⟩
def exT0 : Tp := ⟨⟨#[116]⟩, 0, 0, [], []⟩
def exT1 : Tp := ⟨⟨#[116]⟩, 0, 1, [(⟨#[112]⟩, (1, 0))], [exR0]⟩
def exT2 : Tp := ⟨⟨#[116]⟩, 0, 2, [(⟨#[112]⟩, (5, 1))], [exR0, exR1]⟩
def exT3 : Tp := ⟨⟨#[116]⟩, 0, 2, [(⟨#[112]⟩, (5, 1))], [exR1]⟩
def exT4 : Tp := ⟨⟨#[116]⟩, 2, 2, [(⟨#[112]⟩, (5, 1))], []⟩
theorem ex_p1 : exT0.pub ⟨#[112]⟩ 1 ⟨#[107]⟩ ⟨#[118]⟩ = (exT1, 0, 0) := by kernel_rfl
theorem ex_p2 : exT1.pub ⟨#[112]⟩ 1 ⟨#[107]⟩ ⟨#[119]⟩ = (exT1, 0, 0) := by kernel_rfl
theorem ex_p3 : exT1.pub ⟨#[112]⟩ 0 ⟨#[107]⟩ ⟨#[119]⟩ = (exT1, 0, 6) := by kernel_rfl
theorem ex_p4 : exT1.pub ⟨#[112]⟩ 5 ⟨#[107]⟩ ⟨#[120]⟩ = (exT2, 1, 0) := by kernel_rfl
theorem ex_c : exT2.compact 9 = exT3 := by kernel_rfl
theorem ex_r : readT exT3.recs 0 9 = [exR1] := by kernel_rfl
theorem ex_t3 : exT3.trim 3 = (exT3, 7) := by kernel_rfl
theorem ex_t2 : exT3.trim 2 = (exT4, 0) := by kernel_rfl
theorem ex_f0 : exT0.Fine 0 := fine_new (by kernel_rfl)
theorem ex_f1 : exT1.Fine 1 := by have := fine_pub ex_f0 (by decide) ⟨#[112]⟩ 1 ⟨#[107]⟩ ⟨#[118]⟩; rwa [ex_p1] at this
theorem ex_f2 : exT2.Fine 2 := by have := fine_pub ex_f1 (by decide) ⟨#[112]⟩ 5 ⟨#[107]⟩ ⟨#[120]⟩; rwa [ex_p4] at this
theorem ex_f3 : exT3.Fine 2 := by have := fine_compact ex_f2 9; rwa [ex_c] at this
section
variable {w0 w : World} {a : Nat} {v : Value}
theorem exC1 (h : Own w0 w a exT0) : Calls Tryd.prog 23 #[.pointer (some ⟨a, 0, none⟩), .string ⟨#[112]⟩, .int .i64 1, .string ⟨#[107]⟩, .string ⟨#[118]⟩] w fun e w' => e = .returned (.tuple #[.int .i64 0, .int .i64 0]) ∧ Own w0 w' a exT1 := by
  have := pub_own h ⟨#[112]⟩ 1 ⟨#[107]⟩ ⟨#[118]⟩ 0 ex_f0 (by decide); rwa [ex_p1] at this
theorem exC2 (h : Own w0 w a exT1) : Calls Tryd.prog 23 #[.pointer (some ⟨a, 0, none⟩), .string ⟨#[112]⟩, .int .i64 1, .string ⟨#[107]⟩, .string ⟨#[119]⟩] w fun e w' => e = .returned (.tuple #[.int .i64 0, .int .i64 0]) ∧ Own w0 w' a exT1 := by
  have := pub_own h ⟨#[112]⟩ 1 ⟨#[107]⟩ ⟨#[119]⟩ 1 ex_f1 (by decide); rwa [ex_p2] at this
theorem exC3 (h : Own w0 w a exT1) : Calls Tryd.prog 23 #[.pointer (some ⟨a, 0, none⟩), .string ⟨#[112]⟩, .int .i64 0, .string ⟨#[107]⟩, .string ⟨#[119]⟩] w fun e w' => e = .returned (.tuple #[.int .i64 0, .int .i64 6]) ∧ Own w0 w' a exT1 := by
  have := pub_own h ⟨#[112]⟩ 0 ⟨#[107]⟩ ⟨#[119]⟩ 1 ex_f1 (by decide); rwa [ex_p3] at this
theorem exC4 (h : Own w0 w a exT1) : Calls Tryd.prog 23 #[.pointer (some ⟨a, 0, none⟩), .string ⟨#[112]⟩, .int .i64 5, .string ⟨#[107]⟩, .string ⟨#[120]⟩] w fun e w' => e = .returned (.tuple #[.int .i64 1, .int .i64 0]) ∧ Own w0 w' a exT2 := by
  have := pub_own h ⟨#[112]⟩ 5 ⟨#[107]⟩ ⟨#[120]⟩ 1 ex_f1 (by decide); rwa [ex_p4] at this
theorem exC5 (h : Own w0 w a exT2) : Calls Tryd.prog 32 #[.pointer (some ⟨a, 0, none⟩), .int .i64 9] w fun e w' => e = .returned (.int .i64 0) ∧ Own w0 w' a exT3 := by
  have := compact_own h 9 2 ex_f2 (by decide); rwa [ex_c] at this
theorem exC6 (h : Own w0 w a exT3) : Calls Tryd.prog 12 #[.pointer (some ⟨a, 0, none⟩), .int .i64 0, .int .i64 9] w fun e w' => ∃ v, e = .returned v ∧ OwnR w0 w' a exT3 v [exR1] := by
  have := read_ownR h 0 9 2 ex_f3 (by decide); rwa [ex_r] at this
theorem exC7 (h : OwnR w0 w a exT3 v [exR1]) : Calls Tryd.prog 24 #[.pointer (some ⟨a, 0, none⟩), .int .i64 3] w fun e w' => e = .returned (.int .i64 7) ∧ OwnR w0 w' a exT3 v [exR1] := by
  have := trim_ownR h 3 2 ex_f3 (by decide); rwa [ex_t3] at this
theorem exC8 (h : OwnR w0 w a exT3 v [exR1]) : Calls Tryd.prog 24 #[.pointer (some ⟨a, 0, none⟩), .int .i64 2] w fun e w' => e = .returned (.int .i64 0) ∧ OwnR w0 w' a exT4 v [exR1] := by
  have := trim_ownR h 2 2 ex_f3 (by decide); rwa [ex_t2] at this
end
set_option maxRecDepth 100000 in
set_option maxHeartbeats 4000000 in
theorem ex15_any (w : World) : Calls Tryd.prog 15 #[] w fun e w' => e = .returned (.bool true) ∧ Below w.heap.size w w' := by
  have hY := new_yes (Below.refl w.heap.size w) ⟨#[116]⟩ (by kernel_rfl)
  have hN := fun W => tNew_no ⟨#[84]⟩ W (by kernel_rfl)
  have HY := Lib.hid hY
  have HN := Lib.hid hN
  clear hY hN
  go_enter Tryd.func15, Tryd.ntmps15
  go_wp2_with (first
    | (go_at_call 22; (first | ((with_reducible refine HY.out.mono ?_); rintro e w1 ⟨a, rfl, h0⟩) | ((with_reducible refine (HN.out _).mono ?_); rintro e w2 ⟨rfl, hb2⟩; have h0 : Own w w2 a exT0 := h0.later hb2)))
    | (go_at_call 23; (first | ((with_reducible refine (exC1 h0).mono ?_); rintro e w3 ⟨rfl, h1⟩) | ((with_reducible refine (exC2 h1).mono ?_); rintro e w4 ⟨rfl, h2⟩) | ((with_reducible refine (exC3 h2).mono ?_); rintro e w5 ⟨rfl, h3⟩) | ((with_reducible refine (exC4 h3).mono ?_); rintro e w6 ⟨rfl, h4⟩)))
    | (go_at_call 32; (with_reducible refine (exC5 h4).mono ?_); rintro e w7 ⟨rfl, h5⟩)
    | (go_at_call 12; (with_reducible refine (exC6 h5).mono ?_); rintro e w8 ⟨v, rfl, h6⟩)
    | (go_at_call 24; (first | ((with_reducible refine (exC7 h6).mono ?_); rintro e w9 ⟨rfl, h7⟩) | ((with_reducible refine (exC8 h7).mono ?_); rintro e w10 ⟨rfl, h8⟩; obtain ⟨A, c, rfl, hlc, hC⟩ := Kd.R_reads h8.recs; obtain ⟨ad, r, rfl, hr, k0, _⟩ := rec_nat hC 0 (by decide); have hr' : exR1 = r := hr; rw [← hr'] at k0; have k1 : w10.cell? ad = some (.int .i64 1) := k0; have c1 : w10.cell? ⟨a, 1, none⟩ = some (.int .i64 2) := h8.own.c1; have c2 : w10.cell? ⟨a, 2, none⟩ = some (.int .i64 2) := h8.own.c2; have HB := Lib.hid h8.below; clear hr hr' k0 hC)))
    | (go_at_call 19; (with_reducible refine (low_any _ _ _ c1).mono ?_); rintro e w' ⟨rfl, rfl⟩)
    | (go_at_call 20; (with_reducible refine (end_any _ _ _ c2).mono ?_); rintro e w' ⟨rfl, rfl⟩))
  go_ret
  exact ⟨rfl, HB.out⟩
end Go.Proofs.YtdbnanniboiooaaDoor
