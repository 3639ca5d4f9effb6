/- The publishes of TopicBack: plain law, and the contracts that its walk wants. -/
import Derived.Test.YtdbnanniboiooaaDoorZBack
import Derived.Test.YtdbnanniboiooaaDoorZDumpE
import Derived.Test.YtdbnanniboiooaaDoorZArgs
import Derived.Test.YtdbnanniboiooaaDoorZPick
set_option linter.unusedVariables false
set_option linter.unusedSimpArgs false
namespace Go.Proofs.YtdbnanniboiooaaDoor
open Go.RowKit Go.Proofs.Carillon Go.Proofs.YtdbnanniboiooaaDoorW.PrintWords Go.Lib Go.Shelf
def _root_.Go.Proofs.Carillon.Tp.pubs (T : Tp) (l : List Dd) : Tp := l.foldl (fun T d => (T.pub d.prod d.seq d.key d.val).1) T
def _root_.Go.Proofs.Carillon.Tp.pubs0 (T : Tp) (l : List Dd) : Tp := l.foldl (fun T d => (T.pub d.prod d.seq ⟨#[]⟩ ⟨#[]⟩).1) T
theorem take_succD (l : List Dd) (k : Nat) (h : k < l.length) : l.take (k + 1) = l.take k ++ [l.getD k zDd] := by
  rw [List.take_succ_eq_append_getElem h, List.getD_eq_getElem?_getD, List.getElem?_eq_getElem h]; rfl
theorem pubs_succ (T : Tp) (l : List Dd) (k : Nat) (h : k < l.length) : T.pubs (l.take (k + 1)) = ((T.pubs (l.take k)).pub (l.getD k zDd).prod (l.getD k zDd).seq (l.getD k zDd).key (l.getD k zDd).val).1 := by
  rw [take_succD l k h]; unfold Tp.pubs; rw [List.foldl_append]; rfl
theorem pubs0_succ (T : Tp) (l : List Dd) (k : Nat) (h : k < l.length) : T.pubs0 (l.take (k + 1)) = ((T.pubs0 (l.take k)).pub (l.getD k zDd).prod (l.getD k zDd).seq ⟨#[]⟩ ⟨#[]⟩).1 := by
  rw [take_succD l k h]; unfold Tp.pubs0; rw [List.foldl_append]; rfl
theorem pubs_fine {T : Tp} {n : Nat} (h : T.Fine n) (l : List Dd) (k : Nat) (hk : k ≤ l.length) (hn : n + k ≤ 100000) : (T.pubs (l.take k)).Fine (n + k) := by
  induction k with
  | zero => simpa [Tp.pubs] using h
  | succ k ih => rw [pubs_succ T l k (by omega), show n + (k + 1) = n + k + 1 by omega]; exact fine_pub (ih (by omega) (by omega)) (by omega) _ _ _ _
theorem pubs0_fine {T : Tp} {n : Nat} (h : T.Fine n) (l : List Dd) (k : Nat) (hk : k ≤ l.length) (hn : n + k ≤ 100000) : (T.pubs0 (l.take k)).Fine (n + k) := by
  induction k with
  | zero => simpa [Tp.pubs0] using h
  | succ k ih => rw [pubs0_succ T l k (by omega), show n + (k + 1) = n + k + 1 by omega]; exact fine_pub (ih (by omega) (by omega)) (by omega) _ _ _ _
theorem _root_.Go.Proofs.Carillon.Fits.len {c : UInt8} {x : Itm} (h : Fits c x) : (encB x).length ≤ 100004 := by
  unfold encB
  rcases h with ⟨_, h1, h2, h3⟩ | ⟨_, h1, h2, h3, h4⟩
  · rw [if_pos h1, List.length_append, beL_length]
    have : x.s.data.toList.length = x.s.size := rfl
    omega
  · rw [if_neg (by omega), beL_length]; omega
theorem enc_len : ∀ (l : List Itm), (∀ x ∈ l, ∃ c, Fits c x) → (l.flatMap encB).length ≤ 100004 * l.length
  | [], _ => by simp
  | x :: l, h => by
    obtain ⟨c, hc⟩ := h x List.mem_cons_self
    have := hc.len
    have := enc_len l (fun y hy => h y (List.mem_cons_of_mem _ hy))
    rw [List.flatMap_cons, List.length_append, List.length_cons]
    omega
theorem dump_len {T : Tp} (h : T.Good) (hn : T.items.length ≤ 1000) : T.dump.length ≤ 1000000000 ∧ 4 ≤ T.dump.length := by
  have hl := items_len T
  have hf := items_fit h (by omega)
  have := enc_len T.items hf
  unfold Tp.dump
  rw [dump_eq h hn]
  refine ⟨by simp only; omega, ?_⟩
  simp only
  obtain ⟨c, hc⟩ := hf ⟨4, 0, T.name⟩ (by unfold Tp.items headItems; simp)
  have h4 := hc.ne
  have e : T.items = ⟨4, 0, T.name⟩ :: T.items.drop 1 := rfl
  rw [e, List.flatMap_cons, List.length_append]
  omega
section
variable {w0 w : World} {a b : Nat} {T U : Tp}
theorem dump_own (h : Own w0 w a T) (hg : T.Good) (hS : SizesAt w0) (hn : T.items.length ≤ 1000) : Calls Tryd.prog 21 #[.pointer (some ⟨a, 0, none⟩)] w fun e w' => e = .returned (.string (strB T.dump)) ∧ Own w0 w' a T ∧ Below w.heap.size w w' := by
  obtain ⟨bm, rv, hT⟩ := h.here
  exact (dump_any w _ a bm rv T hT hg (hS.below h.below) hn).mono fun _ _ ⟨h1, h2⟩ => ⟨h1, h.later h2, h2⟩
theorem dump_own2 (h : Own2 w0 w a T b U) (hg : T.Good) (hS : SizesAt w0) (hn : T.items.length ≤ 1000) : Calls Tryd.prog 21 #[.pointer (some ⟨a, 0, none⟩)] w fun e w' => e = .returned (.string (strB T.dump)) ∧ Own2 w0 w' a T b U := by
  obtain ⟨o1, o2, h1, h2, h3, ⟨bm, rv, hT⟩, h5⟩ := h.both
  exact (dump_any w _ a bm rv T hT hg (hS.below h.below) hn).mono fun _ _ ⟨h1, h2⟩ => ⟨h1, h.later h2⟩
theorem load_own (h : Own w0 w a T) (hg : T.Good) (hS : SizesAt w0) (hn : T.items.length ≤ 1000) : Calls Tryd.prog 16 #[.string (strB T.dump)] w fun e w' => ∃ b, e = .returned (.tuple #[.pointer (some ⟨b, 0, none⟩), .int .i64 0]) ∧ Own2 w0 w' a T b T := by
  obtain ⟨R, h1, h2⟩ := load_any w T.dump (hS.below h.below) (dump_len hg hn).1
  have hR := loads_dump hg hn h1
  subst hR
  refine h2.mono ?_
  rintro e w' ⟨hb, ⟨h3, _⟩ | ⟨T', b, h3, rfl, h4⟩⟩
  · cases h3
  · cases h3
    exact ⟨b, rfl, Own2.of h hb h4⟩
end
theorem dd_nat {w : World} {A : Option Addr} {l : List Dd} {n : Nat} (h : DdsIn w A n l) (k : Nat) (h1 : k < n) :
    ∃ ad r, A = some ad ∧ l.getD k zDd = r ∧ w.cell? (ad.add (k * 7)) = some (.int .i64 r.kind) ∧ w.cell? ⟨(ad.add (k * 7)).block, (ad.add (k * 7)).off + 1, none⟩ = some (.string r.prod) ∧
      w.cell? ⟨(ad.add (k * 7)).block, (ad.add (k * 7)).off + 2, none⟩ = some (.int .i64 r.seq) ∧ w.cell? ⟨(ad.add (k * 7)).block, (ad.add (k * 7)).off + 3, none⟩ = some (.string r.key) ∧
      w.cell? ⟨(ad.add (k * 7)).block, (ad.add (k * 7)).off + 4, none⟩ = some (.string r.val) ∧ w.cell? ⟨(ad.add (k * 7)).block, (ad.add (k * 7)).off + 5, none⟩ = some (.int .i64 r.n) ∧ w.cell? ⟨(ad.add (k * 7)).block, (ad.add (k * 7)).off + 6, none⟩ = some (.int .i64 r.most) := by
  obtain ⟨ad, c, e, _, hK, hc0⟩ := Kd.C_get h zDd (k : Int) (by omega) (by omega)
  rw [Int.toNat_natCast] at hK hc0
  have hc : ∀ j u, c[j]? = some u → w.cell? (ad.add (k * 7 + j)) = some u := hc0
  obtain rfl : c = Dd.cells _ := hK
  exact ⟨ad, _, e, rfl, hc 0 _ rfl, by rw [← add_field _ _ 1 (by omega)]; exact hc 1 _ rfl, by rw [← add_field _ _ 2 (by omega)]; exact hc 2 _ rfl, by rw [← add_field _ _ 3 (by omega)]; exact hc 3 _ rfl, by rw [← add_field _ _ 4 (by omega)]; exact hc 4 _ rfl, by rw [← add_field _ _ 5 (by omega)]; exact hc 5 _ rfl, by rw [← add_field _ _ 6 (by omega)]; exact hc 6 _ rfl⟩
theorem toList_isEmpty_ne {s : ByteArray} (h : ¬ s.size = 0) : s.toList.isEmpty = false := nonempty_toList h
end Go.Proofs.YtdbnanniboiooaaDoor
