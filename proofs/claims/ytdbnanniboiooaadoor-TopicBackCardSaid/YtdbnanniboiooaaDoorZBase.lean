/-
  A map with string keys in memory, as a list of names that rise, each with its element: what a look-up, a store, a deletion and len come to.
  command.Word answers whether a text is a word: 1 to 20 bytes, each a small letter or a digit.
  sort.Search over a predicate that is false below k and true from k on answers k.
  The plain data that the proofs speak of: items, records, topics; how they lie in memory; what a call may turn.
-/
import Derived.Maps.Ext
import Derived.Maps.OwnSet
import Derived.OwnWalk
import Derived.Test.YtdbnanniboiooaaDoorProg
import Derived.Shelf.GgClosure.StringsIndexFuncTop
import Derived.Laws.RangeAny
import Derived.WalkKit
import Derived.BigQuiet
import Derived.Laws.Closers25b
import Derived.Lib.Hide
import Derived.Test.YtdbnanniboiooaaDoorShelf
import Derived.Outline
import Derived.Test.YtdbnanniboiooaaDoorWWords
set_option linter.unusedVariables false
set_option linter.unusedSimpArgs false
namespace Go.Proofs.Carillon
open Go.Maps Go.WideShapes Go.WideMaps

/-- How a map's element is told here: by itself. -/
def hR (v : Value) : Option (DataW Value × List MemPlace) := some (.held v, [])

variable {α : Type}

/-- Names rise by their bytes. -/
def lt (a b : ByteArray) : Prop := bytesBefore a.data.toList b.data.toList = true
instance (a b : ByteArray) : Decidable (lt a b) := inferInstanceAs (Decidable (_ = true))
theorem lt_irrefl (a : ByteArray) : ¬ lt a a := by unfold lt; rw [WideAt.bytes_irrefl]; simp
theorem lt_trans {a b c : ByteArray} (h : lt a b) (k : lt b c) : lt a c := bytes_trans _ _ _ h k
theorem list_eq {a b : ByteArray} (h : a.data.toList = b.data.toList) : a = b := by
  cases a; cases b; simp only [ByteArray.mk.injEq]; exact Array.toList_inj.1 h
theorem lt_total {a b : ByteArray} (h : a ≠ b) : lt a b ∨ lt b a := WideAt.bytes_total _ _ (fun e => h (list_eq e))

def mget (m : List (ByteArray × α)) (s : ByteArray) : Option α := (m.find? (fun p => decide (p.1 = s))).map (·.2)
def mput : List (ByteArray × α) → ByteArray → α → List (ByteArray × α)
  | [], s, v => [(s, v)]
  | p :: r, s, v => if p.1 = s then (s, v) :: r else if lt s p.1 then (s, v) :: p :: r else p :: mput r s v
def mdel (m : List (ByteArray × α)) (s : ByteArray) : List (ByteArray × α) := m.filter (fun p => !decide (p.1 = s))
def rises (m : List (ByteArray × α)) : Prop := m.Pairwise (fun p q => lt p.1 q.1)

def dm (enc : α → Value) (m : List (ByteArray × α)) : DataW Value := .map (m.map fun p => (Lit.string p.1.data.toList, .held (enc p.2)))

theorem sameKey_str (a b : ByteArray) : Lit.sameKey (.string a.data.toList) (.string b.data.toList) = decide (a = b) := by
  simp only [Lit.sameKey]
  by_cases h : a = b
  · subst h; simp
  · rw [decide_eq_false h]; simp; exact fun e => h (list_eq (by simpa using e))

theorem dm_get (enc : α → Value) (m : List (ByteArray × α)) (s : ByteArray) (z : DataW Value) :
    (dm enc m).atKey (.string s.data.toList) z = match mget m s with | some v => .held (enc v) | none => z := by
  unfold dm DataW.atKey mget
  simp only
  rw [List.find?_map]
  have e : ((fun p : Lit × DataW Value => p.1.sameKey (.string s.data.toList)) ∘ fun p : ByteArray × α => (Lit.string p.1.data.toList, DataW.held (enc p.2))) = fun p => decide (p.1 = s) := by
    funext p; exact sameKey_str p.1 s
  rw [e]
  cases m.find? (fun p => decide (p.1 = s)) <;> rfl

theorem dm_has (enc : α → Value) (m : List (ByteArray × α)) (s : ByteArray) : Maps.has (dm enc m) (.string s.data.toList) = (mget m s).isSome := by
  unfold dm mget
  show (m.map _).any _ = _
  rw [List.any_map]
  have e : ((fun p : Lit × DataW Value => p.1.sameKey (.string s.data.toList)) ∘ fun p : ByteArray × α => (Lit.string p.1.data.toList, DataW.held (enc p.2))) = fun p => decide (p.1 = s) := by
    funext p; exact sameKey_str p.1 s
  rw [e]
  induction m with
  | nil => rfl
  | cons p r ih => by_cases h : p.1 = s <;> simp_all

theorem dm_size (enc : α → Value) (m : List (ByteArray × α)) : Maps.size (dm enc m) = m.length := by simp [dm, Maps.size]

theorem mput_mem {m : List (ByteArray × α)} {s : ByteArray} {v : α} {p : ByteArray × α} (h : p ∈ mput m s v) : p = (s, v) ∨ p ∈ m := by
  induction m with
  | nil => simpa [mput] using h
  | cons q r ih =>
    simp only [mput] at h
    split at h
    · rcases List.mem_cons.1 h with h | h
      · exact .inl h
      · exact .inr (List.mem_cons_of_mem _ h)
    · split at h
      · rcases List.mem_cons.1 h with h | h
        · exact .inl h
        · exact .inr h
      · rcases List.mem_cons.1 h with h | h
        · exact .inr (h ▸ List.mem_cons_self)
        · rcases ih h with h | h
          · exact .inl h
          · exact .inr (List.mem_cons_of_mem _ h)

theorem mput_rises {m : List (ByteArray × α)} (h : rises m) (s : ByteArray) (v : α) : rises (mput m s v) := by
  induction m with
  | nil => exact List.pairwise_singleton _ _
  | cons p r ih =>
    obtain ⟨h1, h2⟩ := List.pairwise_cons.1 h
    simp only [mput]
    split
    · rename_i e
      exact List.pairwise_cons.2 ⟨fun q hq => by have := h1 q hq; rw [e] at this; exact this, h2⟩
    · split
      · rename_i ne l
        refine List.pairwise_cons.2 ⟨fun q hq => ?_, h⟩
        rcases List.mem_cons.1 hq with rfl | hq
        · exact l
        · exact lt_trans l (h1 q hq)
      · rename_i ne l
        refine List.pairwise_cons.2 ⟨fun q hq => ?_, ih h2⟩
        rcases mput_mem hq with rfl | hq
        · exact (lt_total ne).resolve_right l
        · exact h1 q hq

theorem mdel_rises {m : List (ByteArray × α)} (h : rises m) (s : ByteArray) : rises (mdel m s) := List.Pairwise.filter _ h

theorem filter_all_new {m : List (ByteArray × α)} {s : ByteArray} (enc : α → Value) (h : ∀ q ∈ m, q.1 ≠ s) :
    (m.map fun p => (Lit.string p.1.data.toList, (DataW.held (enc p.2) : DataW Value))).filter (fun p => !p.1.sameKey (.string s.data.toList)) = m.map fun p => (Lit.string p.1.data.toList, DataW.held (enc p.2)) := by
  rw [List.filter_eq_self]
  intro x hx
  obtain ⟨q, hq, rfl⟩ := List.mem_map.1 hx
  simp only [sameKey_str, decide_eq_false (h q hq)]
  rfl

theorem dm_put {m : List (ByteArray × α)} (h : rises m) (enc : α → Value) (s : ByteArray) (v : α) : (dm enc m).put (.string s.data.toList) (.held (enc v)) = dm enc (mput m s v) := by
  unfold dm
  show DataW.map (DataW.insert _ (List.filter _ _)) = _
  congr 1
  induction m with
  | nil => rfl
  | cons p r ih =>
    obtain ⟨h1, h2⟩ := List.pairwise_cons.1 h
    simp only [mput]
    split
    · rename_i e
      have hr : ∀ q ∈ r, q.1 ≠ s := fun q hq e' => lt_irrefl s (by have := h1 q hq; rwa [e, e'] at this)
      have : (List.map (fun p : ByteArray × α => (Lit.string p.1.data.toList, (DataW.held (enc p.2) : DataW Value))) (p :: r)).filter (fun p => !p.1.sameKey (.string s.data.toList)) = r.map fun p => (Lit.string p.1.data.toList, DataW.held (enc p.2)) := by
        rw [List.map_cons, List.filter_cons_of_neg (by simp only [sameKey_str, decide_eq_true e]; simp), filter_all_new enc hr]
      rw [this]
      cases r with
      | nil => rfl
      | cons q r' =>
        have hq := h1 q (List.mem_cons_self)
        rw [e] at hq
        simp only [List.map_cons, DataW.insert]
        rw [if_pos (show Lit.before (.string s.data.toList) (.string q.1.data.toList) = true from hq)]
    · rename_i ne
      split
      · rename_i l
        have hr : ∀ q ∈ p :: r, q.1 ≠ s := fun q hq e' => by
          rcases List.mem_cons.1 hq with rfl | hq
          · exact ne e'
          · exact lt_irrefl s (by have := lt_trans l (h1 q hq); rwa [e'] at this)
        rw [filter_all_new enc hr]
        simp only [List.map_cons, DataW.insert]
        rw [if_pos (show Lit.before (.string s.data.toList) (.string p.1.data.toList) = true from l)]
      · rename_i l
        rw [List.map_cons, List.filter_cons_of_pos (by simp only [sameKey_str, decide_eq_false ne]; rfl)]
        simp only [DataW.insert]
        rw [if_neg (show ¬ Lit.before (.string s.data.toList) (.string p.1.data.toList) = true from l), List.map_cons, ih h2]

theorem dm_del (m : List (ByteArray × α)) (enc : α → Value) (s : ByteArray) : (dm enc m).del (.string s.data.toList) = dm enc (mdel m s) := by
  unfold dm mdel
  show DataW.map (List.filter _ _) = _
  congr 1
  rw [List.filter_map]
  congr 1
  apply List.filter_congr
  intro p _
  simp only [Function.comp, sameKey_str]

theorem mget_put_same (m : List (ByteArray × α)) (s : ByteArray) (v : α) : mget (mput m s v) s = some v := by
  induction m with
  | nil => simp [mput, mget]
  | cons p r ih =>
    simp only [mput]
    split
    · simp [mget]
    · rename_i ne
      split
      · simp [mget]
      · simp only [mget] at ih ⊢
        rw [List.find?_cons_of_neg (by simpa using ne)]
        exact ih
theorem mget_put_other (m : List (ByteArray × α)) {s s' : ByteArray} (h : s' ≠ s) (v : α) : mget (mput m s v) s' = mget m s' := by
  induction m with
  | nil => simp [mput, mget, h.symm]
  | cons p r ih =>
    simp only [mput]
    split
    · rename_i e
      have h1 : ¬ p.1 = s' := fun e' => h (e' ▸ e)
      simp only [mget]
      rw [List.find?_cons_of_neg (by simpa using h.symm), List.find?_cons_of_neg (by simpa using h1)]
    · split
      · simp only [mget]
        rw [List.find?_cons_of_neg (by simpa using h.symm)]
      · simp only [mget] at ih ⊢
        by_cases e' : p.1 = s'
        · rw [List.find?_cons_of_pos (by simpa using e'), List.find?_cons_of_pos (by simpa using e')]
        · rw [List.find?_cons_of_neg (by simpa using e'), List.find?_cons_of_neg (by simpa using e')]
          exact ih
theorem mget_mem {m : List (ByteArray × α)} {s : ByteArray} {v : α} (h : mget m s = some v) : (s, v) ∈ m := by
  unfold mget at h
  obtain ⟨p, hp, rfl⟩ := Option.map_eq_some_iff.1 h
  have h1 := List.find?_some hp
  have h2 := List.mem_of_find?_eq_some hp
  obtain rfl : p.1 = s := by simpa using h1
  exact h2
theorem length_put (m : List (ByteArray × α)) (s : ByteArray) (v : α) : (mput m s v).length ≤ m.length + 1 := by
  induction m with
  | nil => simp [mput]
  | cons p r ih =>
    simp only [mput]
    split
    · simp
    · split <;> simp <;> omega

/-! ### the map in memory -/
structure MapOf (P : Program) (k : TypeId) (enc : α → Value) (w : World) (b : Nat) (m : List (ByteArray × α)) : Prop where
  rise : rises m
  own : w.ownsMap P k hR b m.length (dm enc m)

section
variable {P : Program} {k t e : TypeId} {enc : α → Value} {w w1 : World} {b : Nat} {m : List (ByteArray × α)}
theorem ownsMap_le {R : Value → Option (DataW Value × List MemPlace)} {n : Nat} {D : DataW Value} (h : w.ownsMap P k R b n D) : w.ownsMap P k R b (Maps.size D) D := by
  obtain ⟨es, clock, hb, F, hs, rfl⟩ := h
  exact ⟨es, clock, hb, F, by simp [Maps.size, length_sorted], rfl⟩
theorem MapOf.of {n : Nat} (hr : rises m) (h : w.ownsMap P k hR b n (dm enc m)) : MapOf P k enc w b m := ⟨hr, by have := ownsMap_le h; rwa [dm_size] at this⟩
theorem MapOf.made (w : World) (P : Program) (k : TypeId) (enc : α → Value) : MapOf P k enc (w.alloc (.map #[] 0)) w.heap.size [] := ⟨List.Pairwise.nil, World.ownsMap_made w P k hR⟩
theorem MapOf.move (h : MapOf P k enc w b m) (hb : w1.heap[b]? = w.heap[b]?) : MapOf P k enc w1 b m := by
  obtain ⟨h1, es, clock, hh, F, hs, hD⟩ := h
  exact ⟨h1, es, clock, hb.trans hh, F, hs, hD⟩
theorem MapOf.isMap (h : MapOf P k enc w b m) : ∃ es c, w.heap[b]? = some (.map es c) := by
  obtain ⟨_, es, clock, hh, _⟩ := h
  exact ⟨es, clock, hh⟩
theorem MapOf.lt (h : MapOf P k enc w b m) : b < w.heap.size := h.own.lt
theorem MapOf.look (h : MapOf P k enc w b m) (hk : P.underlying k = some .string) (ht : P.underlying t = some (.map k e)) {z : Value} (hz : (zeroValue e).run P w = .ok z w) (s : ByteArray) (hs : s.size ≤ maxLen) :
    (Instr.lookup t (.map (some b)) (.string s) true).run P w = .ok (.tuple #[match mget m s with | some v => enc v | none => z, .bool (mget m s).isSome]) w := by
  obtain ⟨v, ps, hrun, hv⟩ := h.own.look_ok (zd := .held z) (zp := []) (string_keyed hk) ht hz rfl (keyOf_string_mk hk hs)
  rw [dm_has] at hrun
  rw [dm_get] at hv
  rw [hrun]
  unfold hR at hv
  cases hm : mget m s with
  | none => rw [hm] at hv; simp only [Option.some.injEq, Prod.mk.injEq, DataW.held.injEq] at hv; simp [hv.1]
  | some x => rw [hm] at hv; simp only [Option.some.injEq, Prod.mk.injEq, DataW.held.injEq] at hv; simp [hv.1]
theorem MapOf.look1 (h : MapOf P k enc w b m) (hk : P.underlying k = some .string) (ht : P.underlying t = some (.map k e)) {z : Value} (hz : (zeroValue e).run P w = .ok z w) (s : ByteArray) (hs : s.size ≤ maxLen) :
    (Instr.lookup t (.map (some b)) (.string s) false).run P w = .ok (match mget m s with | some v => enc v | none => z) w := by
  obtain ⟨v, ps, hrun, hv⟩ := h.own.lookup (zd := .held z) (zp := []) (string_keyed hk) ht hz rfl (keyOf_string_mk hk hs)
  rw [dm_get] at hv
  rw [hrun]
  unfold hR at hv
  cases hm : mget m s with
  | none => rw [hm] at hv; simp only [Option.some.injEq, Prod.mk.injEq, DataW.held.injEq] at hv; simp [hv.1]
  | some x => rw [hm] at hv; simp only [Option.some.injEq, Prod.mk.injEq, DataW.held.injEq] at hv; simp [hv.1]
theorem MapOf.len (h : MapOf P k enc w b m) (ht : P.underlying t = some (.map k e)) (ty : TypeId) : (Builtin.len_ #[t] ty #[.map (some b)]).run P w = .ok (.int .i64 m.length) w := by
  have := h.own.len ht ty
  rwa [dm_size] at this
theorem MapOf.store (h : MapOf P k enc w b m) (hk : P.underlying k = some .string) (ht : P.underlying t = some (.map k e)) (hn : m.length < maxLen) (s : ByteArray) (hs : s.size ≤ maxLen) (v : α) :
    ∃ w1, (Instr.mapUpdate t (.map (some b)) (.string s) (enc v)).run P w = .ok () w1 ∧ MapOf P k enc w1 b (mput m s v) ∧ w.mapTurned w1 b := by
  obtain ⟨w1, hrun, hown, hturn⟩ := h.own.store (d := .held (enc v)) (ps := []) (string_keyed hk) ht hn (keyOf_string_mk hk hs) rfl
  rw [dm_put h.rise] at hown
  exact ⟨w1, hrun, .of (mput_rises h.rise s v) hown, hturn⟩
theorem MapOf.drop (h : MapOf P k enc w b m) (hk : P.underlying k = some .string) (ht : P.underlying t = some (.map k e)) (s : ByteArray) (hs : s.size ≤ maxLen) (ty : TypeId) :
    ∃ w1, (Builtin.delete_ #[t, k] ty #[.map (some b), .string s]).run P w = .ok (.tuple #[]) w1 ∧ MapOf P k enc w1 b (mdel m s) ∧ w.mapTurned w1 b := by
  obtain ⟨w1, hrun, hown, hturn⟩ := h.own.drop (string_keyed hk) ht (keyOf_string_mk hk hs) ty
  rw [dm_del] at hown
  exact ⟨w1, hrun, .of (mdel_rises h.rise s) hown, hturn⟩
end
section
variable {P : Program} {ops : Array Oper} {rest : List Oper} {o : Oper} {a : Act} {Q : Exit → Act → World → Prop}
/-- A store at the operation. -/
theorem wpList_map_store (enc : α → Value) (w : World) (hg : o.guard = none) (x y z : Operand) (t : TypeId) (hop : o.op = Op.mapUpdate t x y z) (k e : TypeId) (hk : P.underlying k = some .string) (ht : P.underlying t = some (.map k e)) (b : Nat)
    (m : List (ByteArray × α)) (hm : a.eval x = .map (some b)) (h : MapOf P k enc w b m) (hn : m.length < maxLen) (s : ByteArray) (hs : s.size ≤ maxLen) (v : α) (hy : a.eval y = .string s) (hz : a.eval z = enc v)
    (hK : ∀ w1, MapOf P k enc w1 b (mput m s v) → w.mapTurned w1 b → wpList P ops Q rest (a.put o.dst undef) w1) : wpList P ops Q (o :: rest) a w := by
  refine wpList_plain hg fun K' hK' => ?_
  obtain ⟨w1, hrun, r1, r2⟩ := h.store hk ht hn s hs v
  unfold Oper.wp
  simp [execOp, hop, hm, hy, hz, hrun, Result.andThen]
  exact hK' _ _ (hK w1 r1 r2)
end
end Go.Proofs.Carillon
namespace Go.Proofs.Carillon
open Go.RowKit
def wordByte (b : UInt8) : Bool := (decide (97 ≤ b.toNat) && decide (b.toNat ≤ 122)) || (decide (48 ≤ b.toNat) && decide (b.toNat ≤ 57))
def wordB (s : ByteArray) : Bool := decide (0 < s.size) && decide (s.size ≤ 20) && s.data.toList.all wordByte
def notWord (r : Nat) : Bool := !((decide (97 ≤ r) && decide (r ≤ 122)) || (decide (48 ≤ r) && decide (r ≤ 57)))
theorem notWord_high {r : Nat} (h : 128 ≤ r) : notWord r = true := by simp [notWord]; omega
theorem notWord_byte (b : UInt8) : notWord b.toNat = !wordByte b := rfl
theorem wordByte_high {b : UInt8} (h : 128 ≤ b.toNat) : wordByte b = false := by simp [wordByte]; omega

theorem idx_word (s : ByteArray) : ∀ (f pos : Nat), pos ≤ s.size → s.size ≤ pos + f → (Lib.idxFuncFrom notWord true s f pos < 0 ↔ (s.data.toList.drop pos).all wordByte = true)
  | 0, pos, h, h' => by
    have : s.data.toList.drop pos = [] := by
      apply List.drop_of_length_le
      show s.data.size ≤ pos
      have : s.size = s.data.size := rfl
      omega
    rw [this]; simp [Lib.idxFuncFrom]
  | f + 1, pos, h, h' => by
    unfold Lib.idxFuncFrom
    by_cases hp : pos < s.size
    · rw [if_pos hp]
      have hd : s.data.toList.drop pos = s[pos]'hp :: s.data.toList.drop (pos + 1) := by
        rw [List.drop_eq_getElem_cons (by simpa using hp)]; rfl
      rw [hd, List.all_cons]
      by_cases ha : (s[pos]'hp).toNat < 128
      · rw [decode_ascii s pos hp ha]
        have ih := idx_word s f (pos + 1) (by omega) (by omega)
        have hn : notWord ((s[pos]'hp).toNat, 1).1 = !wordByte (s[pos]'hp) := rfl
        by_cases hw : wordByte (s[pos]'hp) = true
        · rw [if_neg (by rw [hn, hw]; simp), hw, Bool.true_and]; exact ih
        · have hw' : wordByte (s[pos]'hp) = false := by simpa using hw
          rw [if_pos (by rw [hn, hw']; rfl), hw']; simp
      · have hh := (decode_high s pos hp (by omega)).1
        rw [notWord_high hh, if_pos rfl, wordByte_high (by omega)]
        simp
    · rw [if_neg hp]
      have : s.data.toList.drop pos = [] := by
        apply List.drop_of_length_le
        show s.data.size ≤ pos
        have : s.size = s.data.size := rfl
        omega
      rw [this]; simp
theorem idxFunc_word (s : ByteArray) : decide (Lib.idxFunc notWord true s < 0) = s.data.toList.all wordByte := by
  have := idx_word s s.size 0 (by omega) (by omega)
  unfold Lib.idxFunc
  rw [Bool.eq_iff_iff, decide_eq_true_iff, this]; simp
theorem empty_toList {s : ByteArray} (h : s.size = 0) : s.toList = [] := (toList_nil_iff_emptyBytes s).2 (by cases s; simpa [ByteArray.empty, ByteArray.emptyWithCapacity] using h)
theorem nonempty_toList {s : ByteArray} (h : ¬ s.size = 0) : s.toList.isEmpty = false := by
  cases hc : s.toList.isEmpty with
  | false => rfl
  | true =>
    have := (toList_nil_iff_emptyBytes s).1 (List.isEmpty_iff.1 hc)
    subst this
    exact absurd rfl h
end Go.Proofs.Carillon
namespace Go.Proofs.YtdbnanniboiooaaDoor
open Go.RowKit Go.Proofs.Carillon Go.Lib Go.Shelf
theorem word1_any (r : Nat) (w : World) : Calls Tryd.prog 59 #[.int .i32 r] w fun e w' => e = .returned (.bool (notWord r)) ∧ w = w' := by
  go_enter Tryd.func59, Tryd.ntmps59
  go_wp2
  all_goals
    go_ret
    refine ⟨congrArg (fun b => Ending.returned (.bool b)) ?_, rfl⟩
    unfold notWord
    rw [Bool.eq_iff_iff]
    simp
    omega
theorem word1_pred (w : World) : PredAt Tryd.prog 59 #[] encR notWord w := fun W x _ => (word1_any x W).mono fun _ _ h => ⟨h.1, 0, h.2 ▸ rfl⟩

set_option maxHeartbeats 400000 in
theorem word_any (s : ByteArray) (w : World) : Calls Tryd.prog 34 #[.string s] w fun e w' => e = .returned (.bool (wordB s)) ∧ Below w.heap.size w w' := by
  have hI := idxFunc_word s
  have hR := Lib.idxFunc_range notWord true s
  obtain ⟨I, hI'⟩ : ∃ I, Lib.idxFunc notWord true s = I := ⟨_, rfl⟩
  rw [hI'] at hI hR
  have hw : wordB s = (decide (0 < s.size) && decide (s.size ≤ 20) && decide (I < 0)) := by rw [hI]; rfl
  by_cases h1 : s.size = 0
  · have he : s.toList = [] := empty_toList h1
    have hw' : wordB s = false := by rw [hw]; simp [h1]
    go_enter Tryd.func34, Tryd.ntmps34
    go_wp2_with fail
    go_ret
    exact ⟨by first | rfl | (rw [hw']; rfl), Below.refl _ _⟩
  have he : s.toList.isEmpty = false := nonempty_toList h1
  by_cases h2 : s.size ≤ 20
  · have hw' : wordB s = decide (I < 0) := by rw [hw]; simp [h2]; omega
    have cI := Tryd.strings_IndexFunc 59 #[] (enters_of Tryd.func59 (by kernel_rfl) rfl) notWord s w (word1_pred w)
    rw [hI'] at cI
    clear hw hI hR
    have hh := Lib.hid hw'
    clear hw'
    go_enter Tryd.func34, Tryd.ntmps34
    go_wp2_with (go_at_call 58; refine cI.mono ?_; rintro e w1 ⟨rfl, hb⟩)
    go_ret
    exact ⟨by rw [hh.out]; rfl, hb⟩
  · have hw' : wordB s = false := by rw [hw]; simp [h2]
    have h2' : 20 < s.size := by omega
    go_enter Tryd.func34, Tryd.ntmps34
    go_wp2_with fail
    go_ret
    exact ⟨by first | rfl | (rw [hw']; rfl), Below.refl _ _⟩
end Go.Proofs.YtdbnanniboiooaaDoor
namespace Go.Proofs.YtdbnanniboiooaaDoor
open Go.RowKit Go.Proofs.Carillon Go.Lib Go.Shelf

set_option maxHeartbeats 1000000 in
theorem search_any (g : Nat) (lb : Array Value) (eg : ∀ args w, (callFunc g args).run Tryd.prog w = .ok (.enter g args) w) (n k : Nat) (hk : k ≤ n) (hn : n ≤ 4611686018427387904) (w : World)
    (hp : ∀ (W : World) (i : Int), 0 ≤ i → i < n → Below w.heap.size w W → Calls Tryd.prog g (#[.int .i64 i] ++ lb) W fun e w' => e = .returned (.bool (decide ((k : Int) ≤ i))) ∧ Below W.heap.size W w') :
    Calls Tryd.prog 53 #[.int .i64 n, .func (.func g) #[] lb] w fun e w' => e = .returned (.int .i64 k) ∧ Below w.heap.size w w' := by
  go_enter Tryd.func53, Tryd.ntmps53
  go_wp2
  go_loopw [5, 6] (fun a b wr => ∃ i j : Nat, a = .int .i64 i ∧ b = .int .i64 j ∧ i ≤ k ∧ k ≤ j ∧ j ≤ n ∧ Below w.heap.size w wr) (fun a b _ => (intOf b).toNat - (intOf a).toNat)
  case atStart => exact ⟨0, n, rfl, rfl, Nat.zero_le _, hk, Nat.le_refl _, Below.refl _ _⟩
  case round =>
    obtain ⟨i, j, rfl, rfl, h1, h2, h3, hb⟩ := hrel
    by_cases hij : i < j
    · have hc := hp wr (((i : Int) + (j : Int)) / 2) (by omega) (by omega) hb
      by_cases hm : (k : Int) ≤ ((i : Int) + (j : Int)) / 2
      · have hd : decide ((k : Int) ≤ ((i : Int) + (j : Int)) / 2) = true := decide_eq_true hm
        go_wp2_with (go_at_fn g; refine hc.mono ?_; rintro e w1 ⟨rfl, hb1⟩)
        go_roundw
        case rel => exact ⟨i, (i + j) / 2, rfl, by go_num, h1, by omega, by omega, hb.trans (hb1.mono hb.size)⟩
        case measure => simp [intOf]; omega
      · have hd : decide ((k : Int) ≤ ((i : Int) + (j : Int)) / 2) = false := decide_eq_false hm
        go_wp2_with (go_at_fn g; refine hc.mono ?_; rintro e w1 ⟨rfl, hb1⟩)
        go_roundw
        case rel => exact ⟨(i + j) / 2 + 1, j, by go_num, rfl, by omega, h2, h3, hb.trans (hb1.mono hb.size)⟩
        case measure => simp [intOf]; omega
    · obtain rfl : i = k := by omega
      go_wp2_with fail
      go_ret
      exact ⟨rfl, hb⟩
end Go.Proofs.YtdbnanniboiooaaDoor
namespace Go.Proofs.Carillon
open Go.RowKit

/-- What a call may turn: the blocks that 'ok' names, and new ones. -/
structure Turned (ok : Nat → Prop) (w w' : World) : Prop where
  os : w'.os = w.os
  tape : w'.tape = w.tape
  output : w'.output = w.output
  size : w.heap.size ≤ w'.heap.size
  block : ∀ k, k < w.heap.size → ¬ ok k → w'.heap[k]? = w.heap[k]?

section
variable {ok ok1 : Nat → Prop} {w w1 w2 : World}
theorem Turned.refl (ok : Nat → Prop) (w : World) : Turned ok w w := ⟨rfl, rfl, rfl, Nat.le_refl _, fun _ _ _ => rfl⟩
theorem Turned.trans (h : Turned ok w w1) (k : Turned ok1 w1 w2) (hok : ∀ i, ok1 i → ok i ∨ w.heap.size ≤ i) : Turned ok w w2 :=
  ⟨k.os.trans h.os, k.tape.trans h.tape, k.output.trans h.output, Nat.le_trans h.size k.size, fun i hi hn => (k.block i (Nat.lt_of_lt_of_le hi h.size) (fun h1 => (hok i h1).elim hn (fun h2 => by omega))).trans (h.block i hi hn)⟩
theorem Turned.mono (h : Turned ok w w1) (hok : ∀ i, ok i → ok1 i) : Turned ok1 w w1 := ⟨h.os, h.tape, h.output, h.size, fun i hi hn => h.block i hi (fun h1 => hn (hok i h1))⟩
theorem Turned.of_below (h : Below w.heap.size w w1) : Turned ok w w1 := ⟨h.os, h.tape, h.output, h.size, fun i hi _ => h.block i hi⟩
theorem Turned.below (h : Turned (fun _ => False) w w1) : Below w.heap.size w w1 := ⟨h.os, h.tape, h.output, h.size, fun i hi => h.block i hi (fun h => h)⟩
theorem Turned.then_below (h : Turned ok w w1) (k : Below w1.heap.size w1 w2) : Turned ok w w2 := h.trans (ok1 := fun _ => False) (Turned.of_below k) (fun _ h => h.elim)
theorem Turned.of_grown {row : Option Nat} (h : w.grownBy w1 row) (hr : ∀ k, row = some k → ok k) : Turned ok w w1 := ⟨h.os, h.tape, h.output, h.size, fun i hi hn => h.block i hi (fun e => hn (hr i e.symm))⟩
theorem Turned.of_set (a : Addr) (u : Value) (h : ok a.block) : Turned ok w (w.setCell a u) := ⟨rfl, rfl, rfl, by simp [World.setCell], fun i _ hn => Below.heap_setCell w a u i (fun e => hn (e ▸ h))⟩
theorem Turned.of_map {b : Nat} (h : w.mapTurned w1 b) (hb : ok b) : Turned ok w w1 := Turned.of_grown h.grown (fun k hk => by cases hk; exact hb)
theorem Turned.alloc (h : Turned ok w w1) (o : Obj) : Turned ok w (w1.alloc o) := h.then_below ((Below.refl _ _).alloc (Nat.le_refl _) _)
theorem Turned.drewN (h : Turned ok w w1) (n : Nat) : Turned ok w (w1.drewN n) := ⟨h.os, h.tape, h.output, h.size, h.block⟩
theorem Turned.drew (h : Turned ok w w1) : Turned ok w w1.drew := ⟨h.os, h.tape, h.output, h.size, h.block⟩
theorem Turned.cell (h : Turned ok w w1) {a : Addr} {v : Value} (hc : w.cell? a = some v) (hn : ¬ ok a.block) : w1.cell? a = some v :=
  (World.cell?_of_block (h.block _ (World.block_lt_of_cell? w a hc) hn)).trans hc
theorem Turned.at_ (h : Turned ok w w1) {k : Nat} {o : Obj} (hc : w.heap[k]? = some o) (hn : ¬ ok k) : w1.heap[k]? = some o :=
  (h.block k (Array.getElem?_eq_some_iff.1 hc).1 hn).trans hc
end
theorem below_at {w w1 : World} (h : Below w.heap.size w w1) {k : Nat} {o : Obj} (hc : w.heap[k]? = some o) : w1.heap[k]? = some o := (h.block k (Array.getElem?_eq_some_iff.1 hc).1).trans hc
theorem cell_blk {w : World} {b j : Nat} {cs : Array Value} {t : TypeId} {fr : Nat × Nat} {v : Value} (h : w.heap[b]? = some (.cells cs t fr)) (hv : cs[j]? = some v) : w.cell? ⟨b, j, none⟩ = some v := by
  simp [World.cell?, h, hv]
theorem free_blk {w : World} {b j : Nat} {cs : Array Value} {t : TypeId} (h : w.heap[b]? = some (.cells cs t (0, 0))) : w.frozen? ⟨b, j, none⟩ = false := by
  simp [World.frozen?, h]

structure Itm where
  kind : Int
  n : Int
  s : ByteArray
structure Rec where
  off : Int
  prod : ByteArray
  seq : Int
  key : ByteArray
  val : ByteArray
structure Tp where
  name : ByteArray
  low : Int
  fin : Int
  prods : List (ByteArray × (Int × Int))
  recs : List Rec
def zItm : Itm := ⟨0, 0, ⟨#[]⟩⟩
def zRec : Rec := ⟨0, ⟨#[]⟩, 0, ⟨#[]⟩, ⟨#[]⟩⟩
def Itm.cells (x : Itm) : List Value := [.int .i64 x.kind, .int .u64 x.n, .string x.s]
def Rec.cells (x : Rec) : List Value := [.int .i64 x.off, .string x.prod, .int .i64 x.seq, .string x.key, .string x.val]
end Go.Proofs.Carillon

namespace Go.Proofs.YtdbnanniboiooaaDoor
open Go.RowKit Go.Proofs.Carillon Go.Proofs.YtdbnanniboiooaaDoorW.PrintWords

/-- A struct of plain cells as a kind. -/
def flat {α : Type} (sz : Nat) (enc : α → List Value) (hl : ∀ x, (enc x).length = sz) (h1 : ∀ x, ∀ u ∈ enc x, u.oneCell' = true) : Kd α where
  sz := sz
  E := []
  K := fun _ x cs => cs = enc x
  M := fun _ _ _ x cs => cs = enc x
  K_len := fun h => by rw [h]; exact hl _
  K_one := fun h => by rw [h]; exact h1 _
  K_below := fun _ h => h
  K_of_M := fun h => h
  M_mono := fun _ h => h
  M_bound := fun h => h
  M_move := fun _ h => h
  M_lower := fun _ h => h
def kItem : Kd Itm := flat 3 Itm.cells (fun _ => rfl) (fun _ u hu => by simp only [Itm.cells, List.mem_cons, List.not_mem_nil, or_false] at hu; rcases hu with rfl | rfl | rfl <;> rfl)
def kRec : Kd Rec := flat 5 Rec.cells (fun _ => rfl) (fun _ u hu => by simp only [Rec.cells, List.mem_cons, List.not_mem_nil, or_false] at hu; rcases hu with rfl | rfl | rfl | rfl | rfl <;> rfl)

theorem infoRec : (Tryd.prog.info? 41).map (fun i => (i.zero, i.size, i.bytes)) = some (some (.agg #[.int .i64 0, .string ⟨#[]⟩, .int .i64 0, .string ⟨#[]⟩, .string ⟨#[]⟩]), 5, 64) := by kernel_rfl
theorem infoItem : (Tryd.prog.info? 89).map (fun i => (i.zero, i.size, i.bytes)) = some (some (.agg #[.int .i64 0, .int .u64 0, .string ⟨#[]⟩]), 3, 32) := by kernel_rfl

abbrev RecsAt (w : World) (ok : Nat → Prop) (v : Value) (l : List Rec) : Prop := Kd.R kRec 41 w 0 ok v l
abbrev ItemsAt (w : World) (ok : Nat → Prop) (v : Value) (l : List Itm) : Prop := Kd.R kItem 89 w 0 ok v l
abbrev BytesAt (w : World) (ok : Nat → Prop) (v : Value) (l : List Int) : Prop := Kd.R (Kd.int .u8) 5 w 0 ok v l
abbrev RecsIn (w : World) (A : Option Addr) (n : Nat) (l : List Rec) : Prop := kRec.C w A n l
abbrev ItemsIn (w : World) (A : Option Addr) (n : Nat) (l : List Itm) : Prop := kItem.C w A n l

theorem rec_at {w : World} {A : Option Addr} {l : List Rec} {n : Nat} (h : RecsIn w A n l) (i : Int) (h0 : 0 ≤ i) (h1 : i < n) :
    ∃ ad, A = some ad ∧ w.cell? (ad.add (i.toNat * 5)) = some (.int .i64 (l.getD i.toNat zRec).off) ∧ w.cell? ⟨(ad.add (i.toNat * 5)).block, (ad.add (i.toNat * 5)).off + 1, none⟩ = some (.string (l.getD i.toNat zRec).prod) ∧
      w.cell? ⟨(ad.add (i.toNat * 5)).block, (ad.add (i.toNat * 5)).off + 2, none⟩ = some (.int .i64 (l.getD i.toNat zRec).seq) ∧ w.cell? ⟨(ad.add (i.toNat * 5)).block, (ad.add (i.toNat * 5)).off + 3, none⟩ = some (.string (l.getD i.toNat zRec).key) ∧
      w.cell? ⟨(ad.add (i.toNat * 5)).block, (ad.add (i.toNat * 5)).off + 4, none⟩ = some (.string (l.getD i.toNat zRec).val) := by
  obtain ⟨ad, c, e, _, hK, hc0⟩ := Kd.C_get h zRec i h0 h1
  have hc : ∀ j u, c[j]? = some u → w.cell? (ad.add (i.toNat * 5 + j)) = some u := hc0
  obtain rfl : c = Rec.cells _ := hK
  exact ⟨ad, e, hc 0 _ rfl, by rw [← add_field _ _ 1 (by omega)]; exact hc 1 _ rfl, by rw [← add_field _ _ 2 (by omega)]; exact hc 2 _ rfl, by rw [← add_field _ _ 3 (by omega)]; exact hc 3 _ rfl, by rw [← add_field _ _ 4 (by omega)]; exact hc 4 _ rfl⟩
theorem item_at {w : World} {A : Option Addr} {l : List Itm} {n : Nat} (h : ItemsIn w A n l) (i : Int) (h0 : 0 ≤ i) (h1 : i < n) :
    ∃ ad, A = some ad ∧ w.cell? (ad.add (i.toNat * 3)) = some (.int .i64 (l.getD i.toNat zItm).kind) ∧ w.cell? ⟨(ad.add (i.toNat * 3)).block, (ad.add (i.toNat * 3)).off + 1, none⟩ = some (.int .u64 (l.getD i.toNat zItm).n) ∧
      w.cell? ⟨(ad.add (i.toNat * 3)).block, (ad.add (i.toNat * 3)).off + 2, none⟩ = some (.string (l.getD i.toNat zItm).s) := by
  obtain ⟨ad, c, e, _, hK, hc0⟩ := Kd.C_get h zItm i h0 h1
  have hc : ∀ j u, c[j]? = some u → w.cell? (ad.add (i.toNat * 3 + j)) = some u := hc0
  obtain rfl : c = Itm.cells _ := hK
  exact ⟨ad, e, hc 0 _ rfl, by rw [← add_field _ _ 1 (by omega)]; exact hc 1 _ rfl, by rw [← add_field _ _ 2 (by omega)]; exact hc 2 _ rfl⟩

theorem rec_nat {w : World} {A : Option Addr} {l : List Rec} {n : Nat} (h : RecsIn w A n l) (k : Nat) (h1 : k < n) :
    ∃ ad r, A = some ad ∧ l.getD k zRec = r ∧ w.cell? (ad.add (k * 5)) = some (.int .i64 r.off) ∧ w.cell? ⟨(ad.add (k * 5)).block, (ad.add (k * 5)).off + 1, none⟩ = some (.string r.prod) ∧
      w.cell? ⟨(ad.add (k * 5)).block, (ad.add (k * 5)).off + 2, none⟩ = some (.int .i64 r.seq) ∧ w.cell? ⟨(ad.add (k * 5)).block, (ad.add (k * 5)).off + 3, none⟩ = some (.string r.key) ∧
      w.cell? ⟨(ad.add (k * 5)).block, (ad.add (k * 5)).off + 4, none⟩ = some (.string r.val) := by
  obtain ⟨ad, e, h⟩ := rec_at h (k : Int) (by omega) (by omega)
  rw [Int.toNat_natCast] at h
  exact ⟨ad, _, e, rfl, h⟩
theorem item_nat {w : World} {A : Option Addr} {l : List Itm} {n : Nat} (h : ItemsIn w A n l) (k : Nat) (h1 : k < n) :
    ∃ ad r, A = some ad ∧ l.getD k zItm = r ∧ w.cell? (ad.add (k * 3)) = some (.int .i64 r.kind) ∧ w.cell? ⟨(ad.add (k * 3)).block, (ad.add (k * 3)).off + 1, none⟩ = some (.int .u64 r.n) ∧
      w.cell? ⟨(ad.add (k * 3)).block, (ad.add (k * 3)).off + 2, none⟩ = some (.string r.s) := by
  obtain ⟨ad, e, h⟩ := item_at h (k : Int) (by omega) (by omega)
  rw [Int.toNat_natCast] at h
  exact ⟨ad, _, e, rfl, h⟩

/-- A topic in memory: its block a, its producers' map, its records' row, all among the blocks that 'ok' names. -/
def lastV (s : ByteArray) (x : Int × Int) : Value := .agg #[.int .i64 x.1, .int .i64 x.2, .string s]
/-- The element of a producer's name tells the name, too. -/
def withNames (m : List (ByteArray × (Int × Int))) : List (ByteArray × (ByteArray × (Int × Int))) := m.map fun p => (p.1, p.1, p.2)
def lastE (x : ByteArray × (Int × Int)) : Value := lastV x.1 x.2
theorem withNames_put (m : List (ByteArray × (Int × Int))) (s : ByteArray) (v : Int × Int) : mput (withNames m) s (s, v) = withNames (mput m s v) := by
  unfold withNames
  induction m with
  | nil => rfl
  | cons p r ih =>
    simp only [List.map_cons, mput]
    split
    · rfl
    · split
      · rfl
      · rw [ih, List.map_cons]
theorem withNames_get (m : List (ByteArray × (Int × Int))) (s : ByteArray) : mget (withNames m) s = (mget m s).map fun v => (s, v) := by
  unfold withNames mget
  induction m with
  | nil => rfl
  | cons p r ih =>
    simp only [List.map_cons]
    by_cases h : p.1 = s
    · rw [List.find?_cons_of_pos (by simpa using h), List.find?_cons_of_pos (by simpa using h)]
      simp [h]
    · rw [List.find?_cons_of_neg (by simpa using h), List.find?_cons_of_neg (by simpa using h)]
      exact ih
theorem withNames_length (m : List (ByteArray × (Int × Int))) : (withNames m).length = m.length := by simp [withNames]
structure TopicAt (w : World) (ok : Nat → Prop) (a : Nat) (bm : Nat) (rv : Value) (T : Tp) : Prop where
  blk : w.heap[a]? = some (.cells #[.string T.name, .int .i64 T.low, .int .i64 T.fin, .map (some bm), rv] 82 (0, 0))
  oka : ok a
  okm : ok bm
  map : MapOf Tryd.prog 9 lastE w bm (withNames T.prods)
  recs : RecsAt w ok rv T.recs

theorem TopicAt.move {w w1 : World} {ok : Nat → Prop} {a bm : Nat} {rv : Value} {T : Tp} (h : TopicAt w ok a bm rv T) (hm : ∀ k, ok k → k < w.heap.size → w1.heap[k]? = w.heap[k]?) : TopicAt w1 ok a bm rv T :=
  ⟨(hm a h.oka (Array.getElem?_eq_some_iff.1 h.blk).1).trans h.blk, h.oka, h.okm, h.map.move (hm bm h.okm h.map.lt), Kd.R_step h.recs hm⟩
theorem TopicAt.below {w w1 : World} {ok : Nat → Prop} {a bm : Nat} {rv : Value} {T : Tp} (h : TopicAt w ok a bm rv T) (hb : Below w.heap.size w w1) : TopicAt w1 ok a bm rv T := h.move (fun k _ hk => hb.block k hk)
theorem TopicAt.mono {w : World} {ok ok1 : Nat → Prop} {a bm : Nat} {rv : Value} {T : Tp} (h : TopicAt w ok a bm rv T) (ho : ∀ k, ok k → ok1 k) : TopicAt w ok1 a bm rv T :=
  ⟨h.blk, ho _ h.oka, ho _ h.okm, h.map, Kd.R_mono h.recs ho⟩
end Go.Proofs.YtdbnanniboiooaaDoor
