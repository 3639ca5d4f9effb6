/-
  The plain law of Dump and Load: what Dump tells of a topic that may be, Load makes again.
  What Dump tells of a topic that may be, Load makes again: the topic.
  A topic that may be stays one.
-/
import Derived.Test.YtdbnanniboiooaaDoorZNames
import Derived.Test.YtdbnanniboiooaaDoorZDump
import Derived.Test.YtdbnanniboiooaaDoorZPub
set_option linter.unusedVariables false
set_option linter.unusedSimpArgs false
namespace Go.Proofs.Carillon
open Go.Lib
theorem valL_acc (l : List UInt8) : ∀ n, l.foldl (fun n c => n * 256 + c.toNat) n = n * 256 ^ l.length + valL l := by
  induction l with
  | nil => intro n; simp [valL]
  | cons c l ih =>
    intro n
    unfold valL
    rw [List.foldl_cons, List.foldl_cons, ih, ih (0 * 256 + c.toNat), List.length_cons, Nat.pow_succ, Nat.add_mul, Nat.zero_mul, Nat.zero_add, Nat.mul_assoc, Nat.mul_comm 256, Nat.add_assoc]
theorem valL_beL : ∀ k n, valL (beL k n) = n % 256 ^ k := by
  intro k
  induction k with
  | zero => intro n; simp [beL, valL, Nat.mod_one]
  | succ k ih =>
    intro n
    have h := valL_acc (beL k n) (0 * 256 + (n / 256 ^ k % 256).toUInt8.toNat)
    rw [ih, beL_length, Nat.zero_mul, Nat.zero_add] at h
    show List.foldl _ _ _ = _
    rw [beL, List.foldl_cons, Nat.zero_mul, Nat.zero_add, h]
    have e : (n / 256 ^ k % 256).toUInt8.toNat = n / 256 ^ k % 256 := by
      simp
    rw [e, Nat.pow_succ, Nat.mod_mul, Nat.add_comm, Nat.mul_comm]
theorem valL_be {k n : Nat} (h : n < 256 ^ k) : valL (beL k n) = n := by rw [valL_beL, Nat.mod_eq_of_lt h]

/-- An item that is written, and read by its letter, in full. -/
def Fits (c : UInt8) (x : Itm) : Prop := (c = 116 ∧ x.kind = 4 ∧ x.n = 0 ∧ x.s.size ≤ 100000) ∨ (c = 108 ∧ x.kind = 3 ∧ 0 ≤ x.n ∧ x.n < 18446744073709551616 ∧ x.s = ⟨#[]⟩)
def encB (x : Itm) : List UInt8 := if x.kind = 4 then beL 4 x.s.size ++ x.s.data.toList else beL 8 x.n.toNat
theorem Fits.enc {c : UInt8} {x : Itm} (h : Fits c x) : encItem x = .ok (encB x) := by
  unfold encItem encB
  rcases h with ⟨_, h1, h2, h3⟩ | ⟨_, h1, h2, h3, h4⟩
  · rw [if_neg (by omega), if_pos h1, if_neg (by simpa using h2), if_neg (by omega), if_pos h1]
  · have hk : sizeK x.kind = 8 := by rw [h1]; rfl
    have hz : x.s.size = 0 := by rw [h4]; rfl
    rw [if_neg (by omega), if_neg (by omega), if_neg (by rw [hk]; omega), if_neg (by omega), hk]
theorem Fits.ne {c : UInt8} {x : Itm} (_h : Fits c x) : 4 ≤ (encB x).length := by
  unfold encB
  split
  · rw [List.length_append, beL_length]; omega
  · rw [beL_length]; omega
theorem Fits.read {c : UInt8} {x : Itm} (h : Fits c x) (rest : List UInt8) : readItem c (encB x ++ rest) = (x, rest, 0) := by
  unfold readItem encB
  obtain ⟨k, n, s⟩ := x
  rcases h with ⟨h0, h1, h2, h3⟩ | ⟨h0, h1, h2, h3, h4⟩
  · simp only at h1 h2 h3
    subst h1; subst h2
    have hl : (beL 4 s.size).length = 4 := beL_length 4 _
    have ht : (beL 4 s.size ++ s.data.toList ++ rest).take 4 = beL 4 s.size := by rw [List.append_assoc, List.take_append_of_le_length (by omega), List.take_of_length_le (by omega)]
    have hd : (beL 4 s.size ++ s.data.toList ++ rest).drop 4 = s.data.toList ++ rest := by rw [List.append_assoc, List.drop_append_of_le_length (by omega), List.drop_of_length_le (by omega), List.nil_append]
    have hv : valL (beL 4 s.size) = s.size := valL_be (by omega)
    have hsz : s.data.toList.length = s.size := rfl
    rw [if_pos h0, if_pos rfl]
    have e : textL (beL 4 s.size ++ s.data.toList ++ rest) = (s.data.toList, rest, 0) := by
      unfold textL
      rw [if_neg (by rw [List.length_append, List.length_append, hl]; omega), ht, hd, hv, if_neg (by omega), if_neg (by rw [List.length_append]; omega)]
      rw [List.take_append_of_le_length (by omega), List.take_of_length_le (by omega), List.drop_append_of_le_length (by omega), List.drop_of_length_le (by omega), List.nil_append]
    rw [e, strB_of]
  · simp only at h1 h2 h3 h4
    subst h1; subst h4
    have hl : (beL 8 n.toNat).length = 8 := beL_length 8 _
    have hc : ¬ c = 116 := by rw [h0]; decide
    have hs : sizeL c = 8 := by rw [h0]; rfl
    rw [if_neg hc, hs, if_neg (show ¬ (3 : Int) = 4 by decide), if_neg (show ¬ (beL 8 n.toNat ++ rest).length < 8 by rw [List.length_append, hl]; omega)]
    rw [List.take_append_of_le_length (Nat.le_of_eq hl.symm), List.take_of_length_le (Nat.le_of_eq hl), List.drop_append_of_le_length (Nat.le_of_eq hl.symm), List.drop_of_length_le (Nat.le_of_eq hl), List.nil_append, valL_be (show n.toNat < 256 ^ 8 by omega)]
    have hi : letterIx c + 1 = 3 := by rw [h0]; rfl
    rw [hi, Int.toNat_of_nonneg h2]

/-- Letters and items, one by one. -/
def FitsAll : List UInt8 → List Itm → Prop
  | [], [] => True
  | c :: cs, x :: xs => Fits c x ∧ FitsAll cs xs
  | _, _ => False
theorem FitsAll.append : ∀ {cs : List UInt8} {xs : List Itm} {cs' : List UInt8} {xs' : List Itm}, FitsAll cs xs → FitsAll cs' xs' → FitsAll (cs ++ cs') (xs ++ xs')
  | [], [], _, _, _, k => k
  | _ :: _, _ :: _, _, _, h, k => ⟨h.1, FitsAll.append h.2 k⟩
  | [], _ :: _, _, _, h, _ => h.elim
  | _ :: _, [], _, _, h, _ => h.elim
theorem FitsAll.len : ∀ {cs : List UInt8} {xs : List Itm}, FitsAll cs xs → cs.length = xs.length
  | [], [], _ => rfl
  | _ :: _, _ :: _, h => by rw [List.length_cons, List.length_cons, FitsAll.len h.2]
  | [], _ :: _, h => h.elim
  | _ :: _, [], h => h.elim
theorem FitsAll.mem : ∀ {cs : List UInt8} {xs : List Itm}, FitsAll cs xs → ∀ x ∈ xs, ∃ c, Fits c x
  | [], [], _, x, hx => by cases hx
  | c :: _, _ :: _, h, x, hx => by
    rcases List.mem_cons.1 hx with rfl | hx
    · exact ⟨c, h.1⟩
    · exact FitsAll.mem h.2 x hx
  | [], _ :: _, h, _, _ => h.elim
  | _ :: _, [], h, _, _ => h.elim
theorem encGo_fits : ∀ (xs : List Itm) (acc : List UInt8), (∀ x ∈ xs, ∃ c, Fits c x) → encGo xs acc = (acc ++ xs.flatMap encB, 0)
  | [], acc, _ => by simp [encGo]
  | x :: xs, acc, h => by
    obtain ⟨c, hc⟩ := h x List.mem_cons_self
    rw [encGo, hc.enc]
    simp only
    rw [encGo_fits xs _ (fun y hy => h y (List.mem_cons_of_mem _ hy)), List.flatMap_cons, List.append_assoc]
theorem decGo_fits (t : List UInt8) : ∀ (cs : List UInt8) (xs : List Itm) (n : Nat) (cs2 rest : List UInt8) (out : List Itm), FitsAll cs xs → decGo t (xs.length + n) (cs ++ cs2) (xs.flatMap encB ++ rest) out = decGo t n cs2 rest (out ++ xs)
  | [], [], n, cs2, rest, out, _ => by simp
  | c :: cs, x :: xs, n, cs2, rest, out, h => by
    have hs := decGo_step t (xs.length + n + 1) ((c :: cs) ++ cs2) ((x :: xs).flatMap encB ++ rest) out c (cs ++ cs2) (by simp) (by simp)
    rw [List.length_cons, show xs.length + 1 + n = xs.length + n + 1 by omega, hs]
    simp only
    rw [List.flatMap_cons, List.append_assoc, h.1.read]
    simp only
    rw [if_pos trivial, decGo_fits t cs xs n cs2 rest _ h.2, List.append_assoc]
    rfl
  | [], _ :: _, _, _, _, _, h => h.elim
  | _ :: _, [], _, _, _, _, h => h.elim
theorem decGo_round {t : List UInt8} {xs : List Itm} (h : FitsAll t xs) (ht : t ≠ []) (n : Nat) (rest : List UInt8) (out : List Itm) : decGo t (xs.length + n) [] (xs.flatMap encB ++ rest) out = decGo t n [] rest (out ++ xs) := by
  cases t with
  | nil => exact absurd rfl ht
  | cons c cs =>
    cases xs with
    | nil => exact h.elim
    | cons x xs =>
      have hne : ¬ (([] : List UInt8) = [] ∧ (x :: xs).flatMap encB ++ rest = []) := fun hh => by
        have := congrArg List.length hh.2
        have h4 := h.1.ne
        simp only [List.flatMap_cons, List.length_append, List.length_nil] at this
        omega
      have hs := decGo_step (c :: cs) (xs.length + n + 1) [] ((x :: xs).flatMap encB ++ rest) out c cs hne (by simp)
      rw [List.length_cons, show xs.length + 1 + n = xs.length + n + 1 by omega, hs]
      simp only
      rw [List.flatMap_cons, List.append_assoc, h.1.read]
      simp only
      rw [if_pos trivial]
      have := decGo_fits (c :: cs) cs xs n [] rest (out ++ [x]) h.2
      rw [List.append_nil] at this
      rw [this, List.append_assoc]
      rfl
end Go.Proofs.Carillon
namespace Go.Proofs.YtdbnanniboiooaaDoor
open Go.RowKit Go.Proofs.Carillon Go.Lib
def prodItems (p : ByteArray × (Int × Int)) : List Itm := [⟨4, 0, p.1⟩, ⟨3, p.2.1, ⟨#[]⟩⟩, ⟨3, p.2.2, ⟨#[]⟩⟩]
def headItems (T : Tp) : List Itm := [⟨4, 0, T.name⟩, ⟨3, T.low, ⟨#[]⟩⟩, ⟨3, T.fin, ⟨#[]⟩⟩, ⟨3, (T.prods.length : Nat), ⟨#[]⟩⟩]
def _root_.Go.Proofs.Carillon.Tp.items (T : Tp) : List Itm := headItems T ++ T.prods.flatMap prodItems ++ T.recs.flatMap recItems
/-- A topic that may be. -/
structure _root_.Go.Proofs.Carillon.Tp.Good (T : Tp) : Prop where
  name : wordB T.name = true
  low0 : 0 ≤ T.low
  low1 : T.low ≤ T.fin
  fin1 : T.fin ≤ 9007199254740991
  prise : rises T.prods
  prods : ∀ p ∈ T.prods, wordB p.1 = true ∧ 0 ≤ p.2.1 ∧ p.2.1 ≤ 9007199254740991 ∧ 0 ≤ p.2.2 ∧ p.2.2 < T.fin
  rrise : RecRise T.recs
  recs : ∀ r ∈ T.recs, rightB r = true ∧ T.low ≤ r.off ∧ r.off < T.fin
theorem word_fits {s : ByteArray} (h : wordB s = true) : Fits 116 ⟨4, 0, s⟩ := .inl ⟨rfl, rfl, rfl, by have := word_size h; simp only; omega⟩
theorem long_fits {n : Int} (h0 : 0 ≤ n) (h1 : n ≤ 9007199254740991) : Fits 108 ⟨3, n, ⟨#[]⟩⟩ := .inr ⟨rfl, rfl, h0, by simp only; omega, rfl⟩
theorem right_sizes {r : Rec} (h : rightB r = true) : 0 ≤ r.off ∧ 0 ≤ r.seq ∧ r.off ≤ 9007199254740991 ∧ r.seq ≤ 9007199254740991 ∧ r.prod.size ≤ 20 ∧ r.key.size ≤ 100 ∧ r.val.size ≤ 1000 := by
  unfold rightB great at h; simp at h; omega
theorem text_fits {s : ByteArray} (h : s.size ≤ 100000) : Fits 116 ⟨4, 0, s⟩ := .inl ⟨rfl, rfl, rfl, h⟩
theorem head_fits {T : Tp} (h : T.Good) (hp : T.prods.length ≤ 1000000) : FitsAll [116, 108, 108, 108] (headItems T) :=
  ⟨word_fits h.name, long_fits h.low0 (by have := h.low1; have := h.fin1; omega), long_fits (by have := h.low0; have := h.low1; omega) h.fin1, long_fits (by omega) (by omega), trivial⟩
theorem prods_fits : ∀ (l : List (ByteArray × (Int × Int))) (fi : Int), fi ≤ 9007199254740991 → (∀ p ∈ l, wordB p.1 = true ∧ 0 ≤ p.2.1 ∧ p.2.1 ≤ 9007199254740991 ∧ 0 ≤ p.2.2 ∧ p.2.2 < fi) → FitsAll (repeatL [116, 108, 108] l.length) (l.flatMap prodItems)
  | [], _, _, _ => trivial
  | p :: l, fi, hf, h => by
    obtain ⟨h1, h2, h3, h4, h5⟩ := h p List.mem_cons_self
    rw [List.length_cons, repeatL, List.flatMap_cons]
    exact FitsAll.append (cs := [116, 108, 108]) (xs := prodItems p) ⟨word_fits h1, long_fits h2 h3, long_fits h4 (by omega), trivial⟩ (prods_fits l fi hf (fun q hq => h q (List.mem_cons_of_mem _ hq)))
theorem rec_fits {r : Rec} (h : rightB r = true) : FitsAll tT (recItems r) := by
  obtain ⟨h1, h2, h3, h4, h5, h6, h7⟩ := right_sizes h
  exact ⟨long_fits h1 h3, text_fits (by omega), long_fits h2 h4, text_fits (by omega), text_fits (by omega), trivial⟩
theorem decGo_recs : ∀ (l : List Rec) (n : Nat) (out : List Itm), (∀ r ∈ l, rightB r = true) → decGo tT (5 * l.length + n) [] ((l.flatMap recItems).flatMap encB) out = (out ++ l.flatMap recItems, 0)
  | [], n, out, _ => by
    show decGo tT (5 * 0 + n) [] [] out = (out ++ [], 0)
    rw [decGo_done, List.append_nil]
  | r :: l, n, out, h => by
    have := decGo_round (rec_fits (h r List.mem_cons_self)) (by decide) (5 * l.length + n) ((l.flatMap recItems).flatMap encB) out
    rw [List.flatMap_cons, List.flatMap_append, List.length_cons, show 5 * (l.length + 1) + n = (recItems r).length + (5 * l.length + n) by show _ = 5 + _; omega, this, decGo_recs l n _ (fun q hq => h q (List.mem_cons_of_mem _ hq)), List.append_assoc]
theorem prods_len (l : List (ByteArray × (Int × Int))) : (l.flatMap prodItems).length = 3 * l.length := by
  induction l with
  | nil => rfl
  | cons p l ih => rw [List.flatMap_cons, List.length_append, ih, List.length_cons]; show 3 + _ = _; omega
theorem recs_len (l : List Rec) : (l.flatMap recItems).length = 5 * l.length := by
  induction l with
  | nil => rfl
  | cons p l ih => rw [List.flatMap_cons, List.length_append, ih, List.length_cons]; show 5 + _ = _; omega
theorem items_len (T : Tp) : T.items.length = 4 + 3 * T.prods.length + 5 * T.recs.length := by
  unfold Tp.items; rw [List.length_append, List.length_append, prods_len, recs_len]; rfl
def _root_.Go.Proofs.Carillon.Tp.dump (T : Tp) : List UInt8 := (encL T.items).1
theorem items_fit {T : Tp} (h : T.Good) (hp : T.prods.length ≤ 1000000) : ∀ x ∈ T.items, ∃ c, Fits c x := by
  intro x hx
  unfold Tp.items at hx
  rw [List.mem_append, List.mem_append] at hx
  rcases hx with (hx | hx) | hx
  · exact (head_fits h hp).mem x hx
  · exact (prods_fits T.prods T.fin h.fin1 h.prods).mem x hx
  · obtain ⟨r, hr, hx⟩ := List.mem_flatMap.1 hx
    exact (rec_fits (h.recs r hr).1).mem x hx
theorem dump_eq {T : Tp} (h : T.Good) (hn : T.items.length ≤ 1000) : encL T.items = (T.items.flatMap encB, 0) := by
  have := items_len T
  unfold encL; rw [if_neg (by omega), encGo_fits _ _ (items_fit h (by omega)), List.nil_append]
theorem try_some {T : Tp} (h : T.Good) (hn : T.items.length ≤ 1000) : tryN T.dump T.prods.length = (T.items, 0) := by
  have hl := items_len T
  have e : T.dump = (headItems T).flatMap encB ++ ((T.prods.flatMap prodItems).flatMap encB ++ (T.recs.flatMap recItems).flatMap encB) := by
    unfold Tp.dump; rw [dump_eq h hn]; unfold Tp.items; rw [List.flatMap_append, List.flatMap_append, List.append_assoc]
  have h1 := decGo_fits tT _ _ (3 * T.prods.length + (5 * T.recs.length + (1000 - T.items.length))) (repeatL [116, 108, 108] T.prods.length) ((T.prods.flatMap prodItems).flatMap encB ++ (T.recs.flatMap recItems).flatMap encB) [] (head_fits h (by omega))
  have h2 := decGo_fits tT _ _ (5 * T.recs.length + (1000 - T.items.length)) [] ((T.recs.flatMap recItems).flatMap encB) ([] ++ headItems T) (prods_fits T.prods T.fin h.fin1 h.prods)
  rw [prods_len, List.append_nil] at h2
  have h3 := decGo_recs T.recs (1000 - T.items.length) ([] ++ headItems T ++ T.prods.flatMap prodItems) (fun r hr => (h.recs r hr).1)
  unfold tryN hN
  rw [e]
  have h0 : (1000 : Nat) = (headItems T).length + (3 * T.prods.length + (5 * T.recs.length + (1000 - T.items.length))) := by
    show 1000 = 4 + _; omega
  rw [h0, h1, h2, h3]
  rfl
theorem good_only {T : Tp} (h : T.Good) (hn : T.items.length ≤ 1000) {m : Nat} (hm : goodN T.dump m) : m = T.prods.length := by
  obtain ⟨hz, h3⟩ := hm
  have hl := items_len T
  have e : T.dump = (headItems T).flatMap encB ++ ((T.prods.flatMap prodItems).flatMap encB ++ (T.recs.flatMap recItems).flatMap encB) := by
    unfold Tp.dump; rw [dump_eq h hn]; unfold Tp.items; rw [List.flatMap_append, List.flatMap_append, List.append_assoc]
  have h1 := decGo_fits tT _ _ 996 (repeatL [116, 108, 108] m) ((T.prods.flatMap prodItems).flatMap encB ++ (T.recs.flatMap recItems).flatMap encB) [] (head_fits h (by omega))
  rw [show (headItems T).length + 996 = 1000 from rfl, ← e] at h1
  have h1' : tryN T.dump m = decGo tT 996 (repeatL [116, 108, 108] m) ((T.prods.flatMap prodItems).flatMap encB ++ (T.recs.flatMap recItems).flatMap encB) ([] ++ headItems T) := h1
  rw [h1'] at hz h3
  obtain ⟨⟨r, hr⟩, _⟩ := decGo_begins (t := tT) (by decide) _ _ _ _ hz
  rw [← hr] at h3
  have : (([] ++ headItems T ++ r).getD 3 zItm).n = ((T.prods.length : Nat) : Int) := rfl
  rw [this] at h3
  omega
theorem try_good {T : Tp} (h : T.Good) (hn : T.items.length ≤ 1000) : goodN T.dump T.prods.length := by
  unfold goodN; rw [try_some h hn]; exact ⟨rfl, rfl⟩

theorem rises_nil_lt {s : ByteArray} (h : wordB s = true) : lt ⟨#[]⟩ s := by
  have h0 : s ≠ ⟨#[]⟩ := fun e => by rw [e] at h; exact absurd h (by decide)
  rcases lt_total h0 with h | h
  · unfold lt at h
    cases hs : s.data.toList with
    | nil => rw [hs] at h; simp [bytesBefore] at h
    | cons a l => rw [hs] at h; simp [bytesBefore] at h
  · exact h
theorem mput_end : ∀ {m : List (ByteArray × (Int × Int))} {s : ByteArray} (v : Int × Int), (∀ q ∈ m, lt q.1 s) → mput m s v = m ++ [(s, v)]
  | [], _, _, _ => rfl
  | q :: m, s, v, h => by
    have h1 := h q List.mem_cons_self
    have hne : ¬ q.1 = s := fun e => lt_irrefl s (by rw [e] at h1; exact h1)
    have hnl : ¬ lt s q.1 := fun k => lt_irrefl s (lt_trans k h1)
    rw [mput, if_neg hne, if_neg hnl, mput_end v (fun p hp => h p (List.mem_cons_of_mem _ hp)), List.cons_append]
theorem loadProds_all {fi : Int} (hf : fi ≤ 9007199254740991) : ∀ (ps : List (ByteArray × (Int × Int))) (rest : List Itm) (pv : ByteArray) (m : List (ByteArray × (Int × Int))), rises ps → (∀ p ∈ ps, lt pv p.1) → (∀ p ∈ ps, ∀ q ∈ m, lt q.1 p.1) →
    (∀ p ∈ ps, wordB p.1 = true ∧ 0 ≤ p.2.1 ∧ p.2.1 ≤ 9007199254740991 ∧ 0 ≤ p.2.2 ∧ p.2.2 < fi) → loadProds fi ps.length (ps.flatMap prodItems ++ rest) pv m = some (m ++ ps, rest)
  | [], rest, pv, m, _, _, _, _ => by simp [loadProds]
  | p :: ps, rest, pv, m, hr, hpv, hm, h => by
    obtain ⟨h1, h2, h3, h4, h5⟩ := h p List.mem_cons_self
    obtain ⟨r1, r2⟩ := List.pairwise_cons.1 hr
    have hb : badP fi pv p.1 p.2.1 p.2.2 = false := by
      unfold badP
      rw [h1, (leB_lt _ _).2 (hpv p List.mem_cons_self), decide_eq_false (by omega), decide_eq_false (by omega)]
      rfl
    have e : loadProds fi (p :: ps).length ((p :: ps).flatMap prodItems ++ rest) pv m = if badP fi pv p.1 p.2.1 p.2.2 then none else loadProds fi ps.length (ps.flatMap prodItems ++ rest) p.1 (mput m p.1 (p.2.1, p.2.2)) := rfl
    rw [e, hb, mput_end _ (hm p List.mem_cons_self)]
    rw [if_neg (by decide), loadProds_all hf ps rest p.1 _ r2 r1 ?_ (fun q hq => h q (List.mem_cons_of_mem _ hq)), List.append_assoc]
    · rfl
    · intro q hq x hx
      rcases List.mem_append.1 hx with hx | hx
      · exact hm q (List.mem_cons_of_mem _ hq) x hx
      · rw [List.mem_singleton] at hx; rw [hx]; exact r1 q hq
theorem loadRecs_all {fi : Int} : ∀ (l : List Rec) (least : Int) (out : List Rec), RecRise l → (∀ r ∈ l, rightB r = true ∧ least ≤ r.off ∧ r.off < fi) → loadRecs fi l.length (l.flatMap recItems) least out = some (out ++ l)
  | [], _, out, _, _ => by simp [loadRecs]
  | r :: l, least, out, hr, h => by
    obtain ⟨h1, h2, h3⟩ := h r List.mem_cons_self
    obtain ⟨r1, r2⟩ := List.pairwise_cons.1 hr
    have hs := right_sizes h1
    have e : loadRecs fi (r :: l).length ((r :: l).flatMap recItems) least out = if (decide (fi ≤ r.off) || decide (9007199254740991 < r.seq)) = true then none else
      if rightB r = true ∧ least ≤ r.off then loadRecs fi l.length (l.flatMap recItems) (r.off + 1) (out ++ [r]) else none := rfl
    rw [e, if_neg (by simp; omega), if_pos ⟨h1, h2⟩, loadRecs_all l _ _ r2 (fun q hq => ⟨(h q (List.mem_cons_of_mem _ hq)).1, r1 q hq, (h q (List.mem_cons_of_mem _ hq)).2.2⟩), List.append_assoc]
    rfl
theorem load_items {T : Tp} (h : T.Good) : loadFrom T.prods.length T.items = some T := by
  have hP := loadProds_all h.fin1 T.prods (T.recs.flatMap recItems) ⟨#[]⟩ [] h.prise (fun p hp => rises_nil_lt (h.prods p hp).1) (fun _ _ _ hq => by cases hq) h.prods
  have hR := loadRecs_all (fi := T.fin) T.recs T.low [] h.rrise (fun r hr => ⟨(h.recs r hr).1, (h.recs r hr).2.1, (h.recs r hr).2.2⟩)
  have e : loadFrom T.prods.length T.items = (if (!(wordB T.name) || decide (T.fin < T.low) || decide (9007199254740991 < T.fin)) = true then none else
    match loadProds T.fin T.prods.length (T.prods.flatMap prodItems ++ T.recs.flatMap recItems) ⟨#[]⟩ [] with
    | none => none
    | some (m, l') => (loadRecs T.fin (l'.length / 5) l' T.low []).map fun out => ⟨T.name, T.low, T.fin, m, out⟩) := by
      have e1 : T.items.drop 4 = T.prods.flatMap prodItems ++ T.recs.flatMap recItems := by
        unfold Tp.items; rw [List.append_assoc]; rfl
      unfold loadFrom
      rw [e1]
      rfl
  have := h.low1
  have := h.fin1
  rw [e, if_neg (by rw [h.name]; simp; omega), hP]
  simp only
  rw [recs_len, Nat.mul_div_cancel_left _ (by decide), hR]
  rfl
/-- What Dump tells, Load makes again. -/
theorem loads_dump {T : Tp} (h : T.Good) (hn : T.items.length ≤ 1000) {R : Option Tp} (hR : Loads T.dump R) : R = some T := by
  have hl := items_len T
  rcases hR with ⟨n, h1, h2, h3, h4⟩ | ⟨h1, _⟩
  · obtain rfl := good_only h hn h2
    rw [try_some h hn, load_items h] at h4
    exact h4.symm
  · exact absurd (try_good h hn) (h1 _ (by omega))
end Go.Proofs.YtdbnanniboiooaaDoor
namespace Go.Proofs.YtdbnanniboiooaaDoor
open Go.RowKit Go.Proofs.Carillon Go.Lib
/-- A topic that may be, and is small. -/
structure _root_.Go.Proofs.Carillon.Tp.Fine (T : Tp) (k : Nat) : Prop where
  good : T.Good
  fin : T.fin ≤ k
  prods : T.prods.length ≤ k
  recs : T.recs.length ≤ k
theorem _root_.Go.Proofs.Carillon.Tp.Fine.mono {T : Tp} {k k' : Nat} (h : T.Fine k) (hk : k ≤ k') : T.Fine k' := ⟨h.good, by have := h.fin; omega, by have := h.prods; omega, by have := h.recs; omega⟩
theorem fine_new {s : ByteArray} (h : wordB s = true) : Tp.Fine ⟨s, 0, 0, [], []⟩ 0 :=
  ⟨⟨h, Int.le_refl _, Int.le_refl _, (show (0 : Int) ≤ 9007199254740991 by decide), List.Pairwise.nil, (fun _ hp => (by cases hp)), List.Pairwise.nil, (fun _ hp => (by cases hp))⟩, Int.le_refl _, Nat.le_refl _, Nat.le_refl _⟩
theorem good_added {T : Tp} (h : T.Good) (hf : T.fin < 9007199254740991) {p : ByteArray} {seq : Int} {k v : ByteArray} (hw : wordB p = true) (hr : rightB (T.nu p seq k v) = true) : (T.added p seq k v).Good := by
  have hs := right_sizes hr
  have h0 : 0 ≤ T.fin := by have := h.low0; have := h.low1; omega
  refine ⟨h.name, h.low0, ?_, ?_, mput_rises h.prise _ _, ?_, ?_, ?_⟩
  · show T.low ≤ T.fin + 1; have := h.low1; omega
  · show T.fin + 1 ≤ _; omega
  · intro q hq
    rcases mput_mem hq with rfl | hq
    · refine ⟨hw, hs.2.1, hs.2.2.2.1, h0, ?_⟩
      show T.fin < T.fin + 1; omega
    · obtain ⟨a, b, c, d, e⟩ := h.prods q hq
      refine ⟨a, b, c, d, ?_⟩
      show q.2.2 < T.fin + 1; omega
  · show RecRise (T.recs ++ [T.nu p seq k v])
    refine List.pairwise_append.2 ⟨h.rrise, List.pairwise_singleton _ _, ?_⟩
    intro a ha b hb
    rw [List.mem_singleton] at hb; subst hb
    exact (h.recs a ha).2.2
  · intro r hr'
    rcases List.mem_append.1 (show r ∈ T.recs ++ [T.nu p seq k v] from hr') with hr' | hr'
    · obtain ⟨a, b, c⟩ := h.recs r hr'
      refine ⟨a, b, ?_⟩
      show r.off < T.fin + 1; omega
    · rw [List.mem_singleton] at hr'; subst hr'
      refine ⟨hr, h.low1, ?_⟩
      show T.fin < T.fin + 1; omega
theorem pub_cases (T : Tp) (p : ByteArray) (seq : Int) (k v : ByteArray) : (T.pub p seq k v).1 = T ∨ ((T.pub p seq k v).1 = T.added p seq k v ∧ wordB p = true ∧ rightB (T.nu p seq k v) = true) := by
  unfold Tp.pub
  split
  · rename_i h
    split
    · exact .inr ⟨rfl, h.1, h.2⟩
    · split
      · exact .inl rfl
      · split
        · exact .inl rfl
        · exact .inr ⟨rfl, h.1, h.2⟩
  · exact .inl rfl
theorem fine_pub {T : Tp} {n : Nat} (h : T.Fine n) (hn : n < 1000000) (p : ByteArray) (seq : Int) (k v : ByteArray) : (T.pub p seq k v).1.Fine (n + 1) := by
  rcases pub_cases T p seq k v with e | ⟨e, hw, hr⟩
  · rw [e]; exact h.mono (Nat.le_succ _)
  · rw [e]
    have h1 := h.fin
    have h2 := h.prods
    have h3 := h.recs
    refine ⟨good_added h.good (by omega) hw hr, ?_, ?_, ?_⟩
    · show T.fin + 1 ≤ _; omega
    · have := length_put T.prods p (seq, T.fin); show (mput T.prods p (seq, T.fin)).length ≤ _; omega
    · show (T.recs ++ [T.nu p seq k v]).length ≤ _; rw [List.length_append, List.length_singleton]; omega
theorem drop_from {l : List Rec} (h : RecRise l) (off : Int) : ∀ r ∈ l.drop (firstAt l off), off ≤ r.off := by
  intro r hr
  obtain ⟨i, hi, rfl⟩ := List.getElem_of_mem hr
  rw [List.length_drop] at hi
  rw [List.getElem_drop]
  have := (firstAt_spec h off (firstAt l off + i) (by omega)).1 (by omega)
  rw [List.getD_eq_getElem?_getD, List.getElem?_eq_getElem (by omega)] at this
  exact this
theorem fine_trim {T : Tp} {k : Nat} (h : T.Fine k) (n : Int) : (T.trim n).1.Fine k := by
  unfold Tp.trim
  by_cases h1 : T.fin < n
  · rw [if_pos h1]; exact h
  · rw [if_neg h1]
    by_cases h2 : T.low < n
    · rw [if_pos h2]
      have g := h.good
      have := g.low0
      have := g.low1
      refine ⟨⟨g.name, ?_, ?_, g.fin1, g.prise, g.prods, ?_, ?_⟩, h.fin, h.prods, ?_⟩
      · show 0 ≤ n; omega
      · show n ≤ T.fin; omega
      · exact List.Pairwise.sublist (List.drop_sublist _ _) g.rrise
      · intro r hr
        obtain ⟨a, b, c⟩ := g.recs r (List.mem_of_mem_drop hr)
        exact ⟨a, drop_from g.rrise n r hr, c⟩
      · have := h.recs; show (T.recs.drop _).length ≤ k; rw [List.length_drop]; omega
    · rw [if_neg h2]; exact h
theorem fine_items {T : Tp} {k : Nat} (h : T.Fine k) (hk : k ≤ 120) : T.items.length ≤ 964 := by
  rw [items_len]; have := h.prods; have := h.recs; omega
end Go.Proofs.YtdbnanniboiooaaDoor
