/-
  codec.put writes a number's bytes, the greatest first, behind a row of bytes.
  Bytes as strings and rows; the table of sizes.
  codec.Encode makes bytes of items.
-/
import Derived.Test.YtdbnanniboiooaaDoorZParted
import Derived.Lib.AppendStr
set_option linter.unusedVariables false
set_option linter.unusedSimpArgs false
namespace Go.Proofs.Carillon
/-- A number as so many bytes, the greatest first. -/
def beL : Nat → Nat → List UInt8
  | 0, _ => []
  | s + 1, n => (n / 256 ^ s % 256).toUInt8 :: beL s n
theorem beL_length : ∀ s n, (beL s n).length = s
  | 0, _ => rfl
  | s + 1, n => by simp [beL, beL_length s n]
def bytesI (l : List UInt8) : List Int := l.map fun b => (b.toNat : Int)
theorem bytesI_append (a b : List UInt8) : bytesI (a ++ b) = bytesI a ++ bytesI b := by simp [bytesI]
theorem bytesI_length (a : List UInt8) : (bytesI a).length = a.length := by simp [bytesI]
theorem byte_shift (n t : Nat) : (((n / 256 ^ t % 256).toUInt8).toNat : Int) = ((n : Int) / 2 ^ (8 * t)) % 256 := by
  have h : (2 : Nat) ^ (8 * t) = 256 ^ t := by rw [Nat.pow_mul]
  have h1 : (n / 256 ^ t % 256).toUInt8.toNat = n / 256 ^ t % 256 := by
    simp only [Nat.toUInt8_eq, UInt8.toNat_ofNat']
    omega
  rw [h1]
  have h2 : ((2 : Int) ^ (8 * t)) = ((256 ^ t : Nat) : Int) := by rw [← h]; simp
  rw [h2]
  simp
end Go.Proofs.Carillon
namespace Go.Proofs.YtdbnanniboiooaaDoor
open Go.RowKit Go.Proofs.Carillon Go.Proofs.YtdbnanniboiooaaDoorW.PrintWords Go.Lib Go.Shelf
theorem infoByte : (Tryd.prog.info? 5).map (fun i => (i.zero, i.size, i.bytes)) = some (some (.int .u8 0), 1, 1) := by kernel_rfl

def PutPost (ok : Nat → Prop) (w : World) (v : Value) (l : List UInt8) (e : Ending) (w' : World) : Prop :=
  ∃ v', e = .returned v' ∧ BytesAt w' ok v' (bytesI l) ∧ Turned (fun k => v.ownBlock = some k) w w'
def PutRel (ok : Nat → Prop) (w : World) (v : Value) (acc : List UInt8) (v' : Value) (w' : World) : Prop :=
  BytesAt w' ok v' (bytesI acc) ∧ Turned (fun k => v.ownBlock = some k) w w' ∧ (v'.ownBlock = v.ownBlock ∨ ∃ b, v'.ownBlock = some b ∧ w.heap.size ≤ b)

set_option maxHeartbeats 2000000 in
theorem put_any (ok : Nat → Prop) (w : World) (v : Value) (bs : List UInt8) (n size : Nat) (hok : ∀ k, w.heap.size ≤ k → ok k) (hv : BytesAt w ok v (bytesI bs)) (hb : bs.length ≤ 1000000000) (hs : size ≤ 8) (hn : n < 18446744073709551616) :
    Calls Tryd.prog 67 #[v, .int .u64 n, .int .i64 size] w (PutPost ok w v (bs ++ beL size n)) := by
  have hR : PutRel ok w v bs v w := ⟨hv, Turned.refl _ _, .inl rfl⟩
  have HR := Lib.hid hR
  have HOK := Lib.hid hok
  have HN := Lib.hid hn
  obtain ⟨tot, htot⟩ : ∃ tot, bs ++ beL size n = tot := ⟨_, rfl⟩
  have HT := Lib.hid htot
  have hlen : tot.length ≤ 1000000008 := by rw [← htot, List.length_append, beL_length]; omega
  rw [htot]
  have HL := Lib.hid hlen
  clear hR hok hn htot hv hb hlen
  obtain ⟨N, hN⟩ : ∃ N : Int, (n : Int) = N := ⟨_, rfl⟩
  rw [hN]
  have HNN := Lib.hid hN
  clear hN
  go_enter Tryd.func67, Tryd.ntmps67
  go_wp2
  go_loopw [0, 7] (fun x i wr => ∃ (s : Nat) (acc : List UInt8), s ≤ size ∧ i = .int .i64 (8 * (s : Int) - 8) ∧ Hid (acc ++ beL s n = tot) ∧ Hid (PutRel ok w v acc x wr)) (fun _ i _ => ((intOf i) + 8).toNat)
  case atStart => exact ⟨size, bs, Nat.le_refl _, by go_num, HT.out, HR.out⟩
  case round =>
    clear HR HT
    obtain ⟨s, acc, hs1, rfl, HA, HR⟩ := hrel
    cases s with
    | zero =>
      go_wp2
      go_ret
      have : acc = tot := by have := HA.out; simpa [beL] using this
      subst this
      exact ⟨_, rfl, HR.out.1, HR.out.2.1⟩
    | succ t =>
      have e1 : (8 * ((t + 1 : Nat) : Int) - 8) = 8 * (t : Int) := by omega
      rw [e1]
      clear e1
      obtain ⟨x, hx⟩ : ∃ x : Int, 8 * (t : Int) = x := ⟨_, rfl⟩
      have x0 : 0 ≤ x := by omega
      have x1 : x ≤ 56 := by omega
      have x2 : x ≤ 64 := by omega
      have HX := Lib.hid hx
      rw [hx]
      clear hx
      obtain ⟨y, hy⟩ : ∃ y : Int, N / 2 ^ x.toNat = y := ⟨_, rfl⟩
      have HY := Lib.hid hy
      have hl : ((bytesI acc).length + 1) * 1 ≤ 140737488355328 := by
        have h1 := HL.out
        rw [← HA.out, List.length_append, beL_length] at h1
        rw [bytesI_length]; omega
      have hrow := HR.out.1
      have HLL := Lib.hid hl
      have HROW := Lib.hid hrow
      clear hl hrow
      go_wp2_with (at_builtin; refine Kd.R_append (Kd.int .u8) (w0 := wr) (W := wr) 0 rfl (.tmp 15) (.tmp 20) 134 5 (.int .u8 0) 1 rfl Tryd.underlying134 infoByte rfl (by decide) (by decide) u0 (bytesI acc) (y % 256) [.int .u8 (y % 256)] ok (fun _ => False) rfl rfl rfl (fun _ h => h.elim) (fun k hk => HOK.out k (Nat.le_trans HR.out.2.1.size hk)) HROW.out (Below.refl _ _) (Nat.zero_le _) HLL.out ?_; intro v1 w1 hv1 _ hg1 hat1)
      have hb : bytesI acc ++ [y % 256] = bytesI (acc ++ [(n / 256 ^ t % 256).toUInt8]) := by
        rw [bytesI_append]
        congr 1
        simp only [bytesI, List.map_cons, List.map_nil, byte_shift]
        have h1 := HY.out
        have h2 := HX.out
        rw [show (8 * t) = x.toNat by omega, HNN.out, h1]
      have hP : PutRel ok w v (acc ++ [(n / 256 ^ t % 256).toUInt8]) v1 w1 := by
        obtain ⟨h1, h2, h3⟩ := HR.out
        refine ⟨by rw [← hb]; exact hv1, h2.trans (Turned.of_grown (ok := fun k => u0.ownBlock = some k) hg1 (fun k hk => hk)) (fun i hi => ?_), ?_⟩
        · rcases h3 with h3 | ⟨b, h3, hle⟩
          · exact .inl (h3 ▸ hi)
          · rw [h3] at hi; injection hi with hi; exact .inr (hi ▸ hle)
        · rcases hat1 with h4 | ⟨b, h4, hle⟩
          · rcases h3 with h3 | h3
            · exact .inl (h4.trans h3)
            · rw [h4]; exact .inr h3
          · exact .inr ⟨b, h4, Nat.le_trans h2.size hle⟩
      have HP := Lib.hid hP
      clear hP hb hv1 hg1 hat1
      go_roundw
      case rel => exact ⟨t, _, by omega, by rw [show x - 8 = 8 * (t : Int) - 8 by rw [← HX.out]], Lib.hid (by rw [List.append_assoc]; exact HA.out), HP⟩
      case measure => simp [intOf]; omega
end Go.Proofs.YtdbnanniboiooaaDoor
namespace Go.Proofs.Carillon
def strB (l : List UInt8) : ByteArray := ⟨l.toArray⟩
theorem strB_list (l : List UInt8) : (strB l).data.toList = l := by simp [strB]
theorem strB_of (s : ByteArray) : strB s.data.toList = s := by cases s; simp [strB]
theorem strB_size (l : List UInt8) : (strB l).size = l.length := by simp [strB, ByteArray.size]
theorem strOf_bytesI (l : List UInt8) : strOfNums (bytesI l) = strB l := by
  unfold strOfNums bytesI strB
  congr 2
  rw [List.map_map]
  conv => rhs; rw [← List.map_id l]
  apply List.map_congr_left
  intro b _
  simp
section
open Go
variable {P : Program} {ops : Array Oper} {rest : List Oper} {o : Oper} {a : Act} {Q : Exit → Act → World → Prop} {Kc : Act → World → Prop} {W w1 : World}
/-- An append whose run is known, at a step of a region that draws. -/
theorem step_append_run (hw : Region.wanted o (yielded ops a.tmps) = true) (s x : Operand) (t u ty : TypeId) (ho : o.op = .call { callee := .builtin .append, args := #[s, x], argTypes := #[t, u] }) (hty : o.type = ty) (v y v1 : Value) (hs : a.eval s = v) (hx : a.eval x = y)
    (hrun : (Builtin.append_ #[t, u] ty #[v, y]).run P W = .ok v1 w1) (h : Kc (a.put o.dst v1) w1) : if Region.wanted o (yielded ops a.tmps) = true then Oper.wp P o a W Kc Q else Kc (a.put o.dst undef) W := by
  subst hty
  rw [if_pos hw]
  unfold Oper.wp execOp
  simp only [ho, resolve, invoke, builtin, Sem.run_bind, Sem.run_pure, Result.andThen_ok, List.map_toArray, List.map_cons, List.map_nil, hs, hx, hrun]
  exact h
/-- The same in a plain region. -/
theorem wpList_append_run (hgd : o.guard = none) (s x : Operand) (t u ty : TypeId) (ho : o.op = .call { callee := .builtin .append, args := #[s, x], argTypes := #[t, u] }) (hty : o.type = ty) (v y v1 : Value) (hs : a.eval s = v) (hx : a.eval x = y)
    (hrun : (Builtin.append_ #[t, u] ty #[v, y]).run P W = .ok v1 w1) (h : wpList P ops Q rest (a.put o.dst v1) w1) : wpList P ops Q (o :: rest) a W := by
  subst hty
  refine wpList_plain hgd fun K hK => ?_
  unfold Oper.wp execOp
  simp only [ho, resolve, invoke, builtin, Sem.run_bind, Sem.run_pure, Result.andThen_ok, List.map_toArray, List.map_cons, List.map_nil, hs, hx, hrun]
  exact hK _ _ h
end
end Go.Proofs.Carillon
namespace Go.Proofs.YtdbnanniboiooaaDoor
open Go.RowKit Go.Proofs.Carillon Go.Proofs.YtdbnanniboiooaaDoorW.PrintWords Go.Lib Go.Shelf
def SizesAt (w : World) : Prop := w.cell? ⟨0, 1, none⟩ = some (.int .i64 1) ∧ w.cell? ⟨0, 2, none⟩ = some (.int .i64 4) ∧ w.cell? ⟨0, 3, none⟩ = some (.int .i64 8)
theorem SizesAt.below {w w1 : World} (h : SizesAt w) (hb : Below w.heap.size w w1) : SizesAt w1 := ⟨pw_cell_below hb h.1, pw_cell_below hb h.2.1, pw_cell_below hb h.2.2⟩
theorem SizesAt.turned {w w1 : World} {ok : Nat → Prop} (h : SizesAt w) (ht : Turned ok w w1) (hn : ¬ ok 0) : SizesAt w1 := ⟨ht.cell h.1 hn, ht.cell h.2.1 hn, ht.cell h.2.2 hn⟩
theorem own_raise {w : World} {b B : Nat} {e : TypeId} {size n : Nat} {v : Value} {xs : List Value} (h : w.ownsRow b e size v n xs) (hk : ∀ k, v.ownBlock = some k → B ≤ k) : w.ownsRow B e size v n xs := by
  obtain ⟨h1, h2⟩ := h
  refine ⟨h1, ?_⟩
  rcases h2 with h2 | ⟨g, cap, cur, rfl, hb, r⟩
  · exact .inl h2
  · exact .inr ⟨g, cap, cur, rfl, hk g rfl, r⟩
theorem bytesAt_own {w : World} {B : Nat} {v : Value} {bs : List UInt8} (h : BytesAt w (fun k => B ≤ k) v (bytesI bs)) : w.ownsRow B 5 1 v bs.length (nums .u8 (bytesI bs)) := by
  have h1 : w.ownsRow 0 5 1 v (bytesI bs).length (encs (Value.int .u8) (bytesI bs)) := Kd.own_of_R h
  rw [bytesI_length] at h1
  exact own_raise h1 h.1
theorem own_bytesAt {w : World} {B : Nat} {v : Value} {bs : List UInt8} (h : w.ownsRow B 5 1 v bs.length (nums .u8 (bytesI bs))) : BytesAt w (fun k => B ≤ k) v (bytesI bs) :=
  Kd.R_mono (Kd.R_bound (Kd.R_of_own (ok := fun k => B ≤ k) (by rw [bytesI_length]; exact own_raise h (fun k _ => Nat.zero_le k)) (fun k hk => own_base h k hk))) (fun k hk => hk.1)
theorem strCells_nums (s : ByteArray) : strCells s = nums .u8 (bytesI s.data.toList) := by simp [strCells, nums, bytesI]
/-- 'append(v, s...)', s a string. -/
theorem append_str (W : World) (B : Nat) (v : Value) (bs : List UInt8) (s : ByteArray) (hB : B ≤ W.heap.size) (hv : BytesAt W (fun k => B ≤ k) v (bytesI bs)) (hl : bs.length + s.size ≤ 140737488355328) :
    ∃ v1 w1, (Builtin.append_ #[134, 9] 134 #[v, .string s]).run Tryd.prog W = .ok v1 w1 ∧ BytesAt w1 (fun k => B ≤ k) v1 (bytesI (bs ++ s.data.toList)) ∧ W.grownBy w1 v.ownBlock := by
  obtain ⟨i0, hi, hzz⟩ := Option.map_eq_some_iff.1 infoByte
  simp only [Prod.mk.injEq] at hzz
  obtain ⟨hz0, hz1, hz2⟩ := hzz
  obtain ⟨v1, w1, h1, h2, h3, _⟩ := run_append_own_string (P := Tryd.prog) W B 134 9 134 5 i0 Tryd.underlying134 Tryd.underlying9 hi hz0 hz1 hz2 v bs.length _ (bytesAt_own hv) s (by unfold maxLen; omega) hl hB
  refine ⟨v1, w1, h1, own_bytesAt ?_, h3⟩
  rw [strCells_nums, ← nums_append, ← bytesI_append] at h2
  have : (bs ++ s.data.toList).length = bs.length + s.size := by rw [List.length_append]; rfl
  rw [this]; exact h2
end Go.Proofs.YtdbnanniboiooaaDoor
namespace Go.Proofs.Carillon
def sizeK (kind : Int) : Nat := if kind = 1 then 1 else if kind = 2 then 4 else 8
/-- An item's bytes, or the error. -/
def encItem (x : Itm) : Except Int (List UInt8) :=
  if x.kind < 1 ∨ 4 < x.kind then .error 1
  else if x.kind = 4 then
    if x.n ≠ 0 then .error 1 else if 100000 < x.s.size then .error 3 else .ok (beL 4 x.s.size ++ x.s.data.toList)
  else if ¬ x.s.size = 0 ∨ sizeK x.kind < 8 ∧ 0 < x.n.toNat / 2 ^ (8 * sizeK x.kind) then .error 1 else .ok (beL (sizeK x.kind) x.n.toNat)
def encGo : List Itm → List UInt8 → List UInt8 × Int
  | [], acc => (acc, 0)
  | x :: l, acc => match encItem x with
    | .error e => ([], e)
    | .ok b => encGo l (acc ++ b)
def encL (l : List Itm) : List UInt8 × Int := if 1000 < l.length then ([], 3) else encGo l []
theorem encItem_length {x : Itm} {b : List UInt8} (h : encItem x = .ok b) : b.length ≤ 100004 := by
  unfold encItem at h
  split at h
  · cases h
  · split at h
    · split at h
      · cases h
      · split at h
        · cases h
        · injection h with h
          subst h
          rw [List.length_append, beL_length]
          have : x.s.data.toList.length = x.s.size := rfl
          omega
    · split at h
      · cases h
      · injection h with h
        subst h
        rw [beL_length]
        unfold sizeK; split
        · omega
        · split <;> omega
theorem drop_nat {α : Type} (l : List α) (k : Nat) (z : α) (h : k < l.length) : l.drop k = l.getD k z :: l.drop (k + 1) := by
  rw [List.drop_eq_getElem_cons h, List.getD_eq_getElem?_getD, List.getElem?_eq_getElem h]; rfl
theorem encGo_ok {l : List Itm} {k : Nat} {acc b : List UInt8} (h : k < l.length) (hx : encItem (l.getD k zItm) = .ok b) : encGo (l.drop k) acc = encGo (l.drop (k + 1)) (acc ++ b) := by
  rw [drop_nat l k zItm h, encGo, hx]
theorem encGo_err {l : List Itm} {k : Nat} {acc : List UInt8} {e : Int} (h : k < l.length) (hx : encItem (l.getD k zItm) = .error e) : encGo (l.drop k) acc = ([], e) := by
  rw [drop_nat l k zItm h, encGo, hx]
end Go.Proofs.Carillon
namespace Go.Proofs.YtdbnanniboiooaaDoor
open Go.RowKit Go.Proofs.Carillon Go.Proofs.YtdbnanniboiooaaDoorW.PrintWords Go.Lib Go.Shelf
def EncRel (w : World) (l : List Itm) (k : Nat) (acc : List UInt8) (v : Value) (wr : World) : Prop :=
  BytesAt wr (fun k => w.heap.size ≤ k) v (bytesI acc) ∧ Below w.heap.size w wr ∧ encGo (l.drop k) acc = encGo l [] ∧ acc.length ≤ k * 100012
theorem EncRel.alloc {w wr : World} {l : List Itm} {k : Nat} {acc : List UInt8} {v : Value} (h : EncRel w l k acc v wr) (o : Obj) : EncRel w l k acc v (wr.alloc o) := ⟨Kd.R_alloc h.1 o, below_alloc h.2.1 o, h.2.2⟩
theorem EncRel.drew {w wr : World} {l : List Itm} {k : Nat} {acc : List UInt8} {v : Value} (h : EncRel w l k acc v wr) : EncRel w l k acc v wr.drew := ⟨Kd.R_step h.1 (fun _ _ _ => rfl), below_drew h.2.1, h.2.2⟩
theorem EncRel.then_ {w W w1 : World} {l : List Itm} {k : Nat} {acc b : List UInt8} {v v1 : Value} (h : EncRel w l k acc v W) (hk : k < l.length) (hx : encItem (l.getD k zItm) = .ok b) (hv : BytesAt w1 (fun k => w.heap.size ≤ k) v1 (bytesI (acc ++ b)))
    (hb : Below w.heap.size w w1) : EncRel w l (k + 1) (acc ++ b) v1 w1 := by
  obtain ⟨h1, h2, h3, h4⟩ := h
  refine ⟨hv, hb, ?_, ?_⟩
  · rw [← h3, encGo_ok hk hx]
  · rw [List.length_append]; have := encItem_length hx; omega
theorem EncRel.put {w W w1 : World} {l : List Itm} {k : Nat} {acc : List UInt8} {v : Value} (h : EncRel w l k acc v W) (ht : Turned (fun k => v.ownBlock = some k) W w1) : Below w.heap.size w w1 :=
  h.2.1.trans ⟨ht.os, ht.tape, ht.output, ht.size, fun i hi => ht.block i (Nat.lt_of_lt_of_le hi h.2.1.size) (fun e => by have := h.1.1 i e; omega)⟩
theorem EncRel.next {w W w1 : World} {l : List Itm} {k : Nat} {acc b : List UInt8} {v v1 : Value} (h : EncRel w l k acc v W) (hk : k < l.length) (hx : encItem (l.getD k zItm) = .ok b) (hv : BytesAt w1 (fun k => w.heap.size ≤ k) v1 (bytesI (acc ++ b)))
    (ht : Turned (fun k => v.ownBlock = some k) W w1) : EncRel w l (k + 1) (acc ++ b) v1 w1 := h.then_ hk hx hv (h.put ht)
def EncPost (w : World) (l : List Itm) (e : Ending) (w' : World) : Prop := e = .returned (.tuple #[.string (strB (encL l).1), .int .i64 (encL l).2]) ∧ Below w.heap.size w w'

set_option maxRecDepth 100000 in
set_option maxHeartbeats 8000000 in
theorem enc_any (w : World) (n c : Nat) (A : Option Addr) (l : List Itm) (hC : ItemsIn w A n l) (hS : SizesAt w) (hn : n ≤ 1000) (hk : ∀ x ∈ l, 0 ≤ x.n ∧ x.n < 18446744073709551616 ∧ x.s.size ≤ 140737488355328) :
    Calls Tryd.prog 43 #[.slice A n c] w (EncPost w l) := by
  have hR0 : EncRel w l 0 [] (.slice none 0 0) w := ⟨Kd.R_nil _ _ _ _ _, Below.refl _ _, rfl, by simp⟩
  have HR0 := Lib.hid hR0
  have HC := Lib.hid hC
  have HL := Lib.hid hC.1
  have HK := Lib.hid hk
  have HS := Lib.hid hS
  have hE : encL l = encGo l [] := by unfold encL; rw [if_neg (by rw [hC.1]; omega)]
  have HE := Lib.hid hE
  clear hC hk hS hR0 hE
  have hn2 : decide (1000 < (n : Int)) = false := by simp; omega
  go_enter Tryd.func43, Tryd.ntmps43
  go_wp2
  go_loopw [4, 13] (fun v i wr => ∃ (k : Nat) (acc : List UInt8), k ≤ n ∧ i = .int .i64 k ∧ EncRel w l k acc v wr) (fun _ i _ => n - (intOf i).toNat)
  case atStart => exact ⟨0, [], Nat.zero_le _, rfl, HR0.out⟩
  case round =>
    clear HR0
    obtain ⟨k, acc, hk, rfl, hm⟩ := hrel
    have HM := Lib.hid hm
    clear hm
    by_cases hlt : k < n
    · obtain ⟨ad, r, rfl, hr, p0, p1, p2⟩ := item_nat (Kd.C_below HC.out HM.out.2.1) k hlt
      have hmem : r ∈ l := by
        rw [← hr, List.getD_eq_getElem?_getD, List.getElem?_eq_getElem (by rw [HL.out]; exact hlt)]
        exact List.getElem_mem _
      obtain ⟨q0, q1, q2⟩ := HK.out r hmem
      obtain ⟨N, hN⟩ : ∃ N : Nat, r.n = (N : Int) := ⟨r.n.toNat, by omega⟩
      rw [hN] at p1
      obtain ⟨S, hS⟩ : ∃ S, r.s = S := ⟨_, rfl⟩
      rw [hS] at p2
      obtain ⟨K, hK⟩ : ∃ K, r.kind = K := ⟨_, rfl⟩
      rw [hK] at p0
      have HR := Lib.hid hr
      have HN := Lib.hid hN
      have HSS := Lib.hid hS
      have HKK := Lib.hid hK
      have q3 : N < 18446744073709551616 := by omega
      have HQ := Lib.hid q3
      have HQ2 := Lib.hid q2
      have HB := Lib.hid HM.out.2.1
      clear hr hmem q0 q1 q2 hN hS hK q3
      have s0 : ∀ o, (wr.alloc o).cell? ⟨0, 1, none⟩ = some (.int .i64 1) := fun o => (HS.out.below (below_alloc HB.out o)).1
      have s1 : ∀ o, (wr.alloc o).cell? ⟨0, 2, none⟩ = some (.int .i64 4) := fun o => (HS.out.below (below_alloc HB.out o)).2.1
      have s2 : ∀ o, (wr.alloc o).cell? ⟨0, 3, none⟩ = some (.int .i64 8) := fun o => (HS.out.below (below_alloc HB.out o)).2.2
      by_cases b1 : K < 1
      · have hx : encItem (l.getD k zItm) = .error 1 := by unfold encItem; rw [HR.out, HKK.out, if_pos (.inl b1)]
        have HX := Lib.hid hx
        clear hx
        go_wp2_with fail
        go_ret2
        exact ⟨by rw [HE.out, ← HM.out.2.2.1, encGo_err (by rw [HL.out]; exact hlt) HX.out]; rfl, below_alloc HB.out _⟩
      by_cases b4 : 4 < K
      · have hx : encItem (l.getD k zItm) = .error 1 := by unfold encItem; rw [HR.out, HKK.out, if_pos (.inr b4)]
        have HX := Lib.hid hx
        clear hx
        go_wp2_with fail
        go_ret2
        exact ⟨by rw [HE.out, ← HM.out.2.2.1, encGo_err (by rw [HL.out]; exact hlt) HX.out]; rfl, below_alloc HB.out _⟩
      have hacc : acc.length ≤ 1000000000 := by have := HM.out.2.2.2; omega
      have HACC := Lib.hid hacc
      clear hacc
      by_cases k1 : K = 1
      · subst k1
        have hsz : sizeK 1 = 1 := rfl
        by_cases e : S.size = 0
        · have he : S.toList = [] := empty_toList e
          by_cases t : (0 : Int) < (N : Int) / 256
          · have hx : encItem (l.getD k zItm) = .error 1 := by
              unfold encItem
              rw [HR.out, HKK.out, if_neg (by decide), if_neg (by decide), if_pos]
              refine .inr ⟨by decide, ?_⟩
              rw [HN.out, Int.toNat_natCast]
              show 0 < N / 256
              omega
            clear e
            have HX := Lib.hid hx
            clear hx
            go_wp2_with fail
            go_ret2
            exact ⟨by rw [HE.out, ← HM.out.2.2.1, encGo_err (by rw [HL.out]; exact hlt) HX.out]; rfl, below_alloc HB.out _⟩
          · have hx : encItem (l.getD k zItm) = .ok (beL 1 N) := by
              unfold encItem
              rw [HR.out, HKK.out, if_neg (by decide), if_neg (by decide), if_neg, HN.out, Int.toNat_natCast, hsz]
              rw [HSS.out, HN.out, Int.toNat_natCast]
              rintro (h | ⟨_, h⟩)
              · exact h e
              · have h' : 0 < N / 256 := h
                omega
            clear e
            have HX := Lib.hid hx
            clear hx
            go_wp2_with (go_at_call 67; refine (put_any (fun k => w.heap.size ≤ k) _ u4 acc N 1 (fun k hk => Nat.le_trans (below_alloc HB.out _).size hk) (HM.out.alloc _).1 HACC.out (by omega) HQ.out).mono ?_; rintro e w1 ⟨v1, rfl, hv1, ht1⟩)
            have hnx := (HM.out.alloc _).next (by rw [HL.out]; exact hlt) HX.out hv1 ht1
            have HNX := Lib.hid hnx
            clear hnx hv1 ht1
            go_roundw
            case rel => exact ⟨k + 1, _, by omega, by go_num, HNX.out⟩
            case measure => simp [intOf]; omega
        · have he : S.toList.isEmpty = false := nonempty_toList e
          have hx : encItem (l.getD k zItm) = .error 1 := by
            unfold encItem
            rw [HR.out, HKK.out, if_neg (by decide), if_neg (by decide), if_pos]
            rw [HSS.out]
            exact .inl e
          clear e
          have HX := Lib.hid hx
          clear hx
          go_wp2_with fail
          go_ret2
          exact ⟨by rw [HE.out, ← HM.out.2.2.1, encGo_err (by rw [HL.out]; exact hlt) HX.out]; rfl, below_alloc HB.out _⟩
      by_cases k2 : K = 2
      · subst k2
        have hsz : sizeK 2 = 4 := rfl
        by_cases e : S.size = 0
        · have he : S.toList = [] := empty_toList e
          by_cases t : (0 : Int) < (N : Int) / 4294967296
          · have hx : encItem (l.getD k zItm) = .error 1 := by
              unfold encItem
              rw [HR.out, HKK.out, if_neg (by decide), if_neg (by decide), if_pos]
              refine .inr ⟨by decide, ?_⟩
              rw [HN.out, Int.toNat_natCast]
              show 0 < N / 4294967296
              omega
            clear e
            have HX := Lib.hid hx
            clear hx
            go_wp2_with fail
            go_ret2
            exact ⟨by rw [HE.out, ← HM.out.2.2.1, encGo_err (by rw [HL.out]; exact hlt) HX.out]; rfl, below_alloc HB.out _⟩
          · have hx : encItem (l.getD k zItm) = .ok (beL 4 N) := by
              unfold encItem
              rw [HR.out, HKK.out, if_neg (by decide), if_neg (by decide), if_neg, HN.out, Int.toNat_natCast, hsz]
              rw [HSS.out, HN.out, Int.toNat_natCast]
              rintro (h | ⟨_, h⟩)
              · exact h e
              · have h' : 0 < N / 4294967296 := h
                omega
            clear e
            have HX := Lib.hid hx
            clear hx
            go_wp2_with (go_at_call 67; refine (put_any (fun k => w.heap.size ≤ k) _ u4 acc N 4 (fun k hk => Nat.le_trans (below_alloc HB.out _).size hk) (HM.out.alloc _).1 HACC.out (by omega) HQ.out).mono ?_; rintro e w1 ⟨v1, rfl, hv1, ht1⟩)
            have hnx := (HM.out.alloc _).next (by rw [HL.out]; exact hlt) HX.out hv1 ht1
            have HNX := Lib.hid hnx
            clear hnx hv1 ht1
            go_roundw
            case rel => exact ⟨k + 1, _, by omega, by go_num, HNX.out⟩
            case measure => simp [intOf]; omega
        · have he : S.toList.isEmpty = false := nonempty_toList e
          have hx : encItem (l.getD k zItm) = .error 1 := by
            unfold encItem
            rw [HR.out, HKK.out, if_neg (by decide), if_neg (by decide), if_pos]
            rw [HSS.out]
            exact .inl e
          clear e
          have HX := Lib.hid hx
          clear hx
          go_wp2_with fail
          go_ret2
          exact ⟨by rw [HE.out, ← HM.out.2.2.1, encGo_err (by rw [HL.out]; exact hlt) HX.out]; rfl, below_alloc HB.out _⟩
      by_cases k3 : K = 3
      · subst k3
        have hsz : sizeK 3 = 8 := rfl
        by_cases e : S.size = 0
        · have he : S.toList = [] := empty_toList e
          have hx : encItem (l.getD k zItm) = .ok (beL 8 N) := by
            unfold encItem
            rw [HR.out, HKK.out, if_neg (by decide), if_neg (by decide), if_neg, HN.out, Int.toNat_natCast, hsz]
            rw [HSS.out]
            rintro (h | ⟨h, _⟩)
            · exact h e
            · exact absurd h (by decide)
          clear e
          have HX := Lib.hid hx
          clear hx
          go_wp2_with (go_at_call 67; refine (put_any (fun k => w.heap.size ≤ k) _ u4 acc N 8 (fun k hk => Nat.le_trans (below_alloc HB.out _).size hk) (HM.out.alloc _).1 HACC.out (by omega) HQ.out).mono ?_; rintro e w1 ⟨v1, rfl, hv1, ht1⟩)
          have hnx := (HM.out.alloc _).next (by rw [HL.out]; exact hlt) HX.out hv1 ht1
          have HNX := Lib.hid hnx
          clear hnx hv1 ht1
          go_roundw
          case rel => exact ⟨k + 1, _, by omega, by go_num, HNX.out⟩
          case measure => simp [intOf]; omega
        · have he : S.toList.isEmpty = false := nonempty_toList e
          have hx : encItem (l.getD k zItm) = .error 1 := by
            unfold encItem
            rw [HR.out, HKK.out, if_neg (by decide), if_neg (by decide), if_pos]
            rw [HSS.out]
            exact .inl e
          clear e
          have HX := Lib.hid hx
          clear hx
          go_wp2_with fail
          go_ret2
          exact ⟨by rw [HE.out, ← HM.out.2.2.1, encGo_err (by rw [HL.out]; exact hlt) HX.out]; rfl, below_alloc HB.out _⟩
      have k4 : K = 4 := by omega
      subst k4
      by_cases n0 : N = 0
      · subst n0
        by_cases big : 100000 < S.size
        · have hx : encItem (l.getD k zItm) = .error 3 := by
            unfold encItem
            rw [HR.out, HKK.out, if_neg (by decide), if_pos rfl, if_neg, if_pos]
            · rw [HSS.out]; exact big
            · rw [HN.out]; exact fun h => h rfl
          have HX := Lib.hid hx
          clear hx
          go_wp2_with fail
          go_ret2
          exact ⟨by rw [HE.out, ← HM.out.2.2.1, encGo_err (by rw [HL.out]; exact hlt) HX.out]; rfl, below_alloc HB.out _⟩
        · have hx : encItem (l.getD k zItm) = .ok (beL 4 S.size ++ S.data.toList) := by
            unfold encItem
            rw [HR.out, HKK.out, if_neg (by decide), if_pos rfl, if_neg, if_neg, HSS.out]
            · rw [HSS.out]; exact big
            · rw [HN.out]; exact fun h => h rfl
          have HX := Lib.hid hx
          clear hx
          go_wp2_with fail
          have hown : ∀ k, u4.ownBlock = some k → k ≠ wr.heap.size := fun k hk => by have := ((Kd.R_bound HM.out.1).1 k hk).2.2.1; omega
          have HOWN := Lib.hid hown
          clear hown
          have hwr : IntKind.u64.wrap (S.size : Int) = (S.size : Int) := IntWalk.u64_in _ (by omega)
          have bx0 : (wr.alloc (.cells #[.int .i64 4, .int .u64 0, .string S] 89)).cell? ⟨wr.heap.size, 2, none⟩ = some (.string S) := cell_blk (heap_alloc_new _ _) rfl
          have hM1 := (HM.out.alloc (.cells #[.int .i64 4, .int .u64 0, .string S] 89)).drew
          have hbb : (wr.alloc (.cells #[.int .i64 4, .int .u64 0, .string S] 89)).drew.heap[wr.heap.size]? = some (.cells #[.int .i64 4, .int .u64 0, .string S] 89 (0, 0)) := heap_alloc_new wr _
          have hp := put_any (fun k => w.heap.size ≤ k) (wr.alloc (.cells #[.int .i64 4, .int .u64 0, .string S] 89)).drew u4 acc S.size 4 (fun k hk => Nat.le_trans (below_alloc HB.out _).size hk) hM1.1 HACC.out (by omega) (by omega)
          have HM1 := Lib.hid hM1
          have HBB := Lib.hid hbb
          have HP := Lib.hid hp
          clear hM1 hbb hp
          go_region_held3 (fun w' => w'.cell? ⟨wr.heap.size, 2, none⟩ = some (.string S)) (first | exact bx2 | exact bx | go_keep) (first | (go_at_call 67; refine HP.out.mono ?_; rintro e w1 ⟨v1, rfl, hv1, ht1⟩; have hbx := ht1.at_ HBB.out (fun h => HOWN.out _ h rfl); have bx := cell_blk (j := 2) hbx rfl; have hw1 : w.heap.size ≤ w1.heap.size := Nat.le_trans (below_alloc HB.out _).size ht1.size; obtain ⟨v2, w2, hrun, hv2, hg2⟩ := append_str w1 w.heap.size v1 (acc ++ beL 4 S.size) S hw1 hv1 (by have := HACC.out; rw [List.length_append, beL_length]; omega); have bx2 := cell_blk (j := 2) ((hg2.block _ (blk_lt hbx) (Kd.R_ne hv1 hbx (by decide))).trans hbx) rfl) | (refine step_append_run (by rfl) (.tmp 40) (.tmp 42) 134 9 134 rfl rfl v1 (.string S) v2 (by rfl) (by rfl) hrun ?_))
          have hb1 := HM1.out.put ht1
          have hnx := HM1.out.then_ (by rw [HL.out]; exact hlt) HX.out (by rw [← List.append_assoc]; exact hv2) (hb1.grown hg2 hw1 (fun k hk => hv1.1 k hk))
          have HNX := Lib.hid hnx
          clear hnx hb1 hv1 hv2 ht1 hg2 hbx bx bx2 bx0 hrun hwr
          go_wp2
          go_roundw
          case rel => exact ⟨k + 1, _, by omega, by go_num, HNX.out⟩
          case measure => simp [intOf]; omega
      · have hx : encItem (l.getD k zItm) = .error 1 := by
          unfold encItem
          rw [HR.out, HKK.out, if_neg (by decide), if_pos rfl, if_pos]
          rw [HN.out]; omega
        have HX := Lib.hid hx
        clear hx
        have n1 : ((N : Int) == 0) = false := by simpa using n0
        have n2 : ((N : Int) != 0) = true := by simpa using n0
        go_wp2_with fail
        go_ret2
        exact ⟨by rw [HE.out, ← HM.out.2.2.1, encGo_err (by rw [HL.out]; exact hlt) HX.out]; rfl, below_alloc HB.out _⟩
    · obtain rfl : n = k := by omega
      have hm := HM.out
      obtain ⟨A2, c2, rfl, _, hC2⟩ := Kd.R_reads hm.1
      have hst := Kd.C_string (P := Tryd.prog) (src := 134) (dst := 9) Tryd.underlying134 Tryd.underlying5 Tryd.underlying9 (A := A2) (n := (bytesI acc).length) (c := c2) hC2
      rw [strOf_bytesI] at hst
      have hfin : encGo l [] = (acc, 0) := by
        rw [← hm.2.2.1, List.drop_of_length_le (by rw [HL.out]; exact Nat.le_refl _)]; rfl
      have HF := Lib.hid hfin
      clear hm hC2 hfin
      generalize (bytesI acc).length = m at *
      go_wp2
      go_ret2
      exact ⟨by rw [HE.out, HF.out]; rfl, HM.out.2.1⟩
end Go.Proofs.YtdbnanniboiooaaDoor
