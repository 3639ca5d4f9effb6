/-
  codec.right answers yes to a text of the letters b, w, l, t with at most one star, which does not stand at the end.
  The codec's reader: a number of so many bytes, a text.
  The codec's reader: a text.
-/
import Derived.Test.YtdbnanniboiooaaDoorZCode
set_option linter.unusedVariables false
set_option linter.unusedSimpArgs false
namespace Go.Proofs.Carillon
def isLetter (b : UInt8) : Prop := b = 98 ∨ b = 119 ∨ b = 108 ∨ b = 116
def letterIx (b : UInt8) : Int := if b = 98 then 0 else if b = 119 then 1 else if b = 108 then 2 else if b = 116 then 3 else -1
theorem letterIx_of {b : UInt8} : Lib.indexByte [98, 119, 108, 116] b = letterIx b := by
  unfold letterIx Lib.indexByte Lib.indexByte Lib.indexByte Lib.indexByte Lib.indexByte
  by_cases h1 : b = 98
  · subst h1; decide
  by_cases h2 : b = 119
  · subst h2; decide
  by_cases h3 : b = 108
  · subst h3; decide
  by_cases h4 : b = 116
  · subst h4; decide
  simp [h1, h2, h3, h4, Ne.symm h1, Ne.symm h2, Ne.symm h3, Ne.symm h4]
theorem letterIx_pos {b : UInt8} (h : isLetter b) : 0 ≤ letterIx b ∧ letterIx b ≤ 3 := by
  rcases h with rfl | rfl | rfl | rfl <;> decide
theorem indexByte_none {l : List UInt8} {c : UInt8} (h : ∀ b ∈ l, b ≠ c) : Lib.indexByte l c = -1 := by
  induction l with
  | nil => rfl
  | cons b l ih =>
    unfold Lib.indexByte
    have hb : (b == c) = false := by simpa using h b List.mem_cons_self
    rw [hb, ih (fun x hx => h x (List.mem_cons_of_mem _ hx))]
    rfl
theorem indexByte_hit {l r : List UInt8} {c : UInt8} (h : ∀ b ∈ l, b ≠ c) : Lib.indexByte (l ++ c :: r) c = l.length := by
  induction l with
  | nil => simp [Lib.indexByte]
  | cons b l ih =>
    rw [List.cons_append]
    unfold Lib.indexByte
    have hb : (b == c) = false := by simpa using h b List.mem_cons_self
    rw [hb, ih (fun x hx => h x (List.mem_cons_of_mem _ hx))]
    have h1 : ((l.length : Int) == -1) = false := by rw [beq_eq_false_iff_ne]; omega
    rw [h1]
    simp
theorem letter_star {l : List UInt8} (h : ∀ b ∈ l, isLetter b) : ∀ b ∈ l, b ≠ 42 := by
  intro b hb e
  subst e
  rcases h 42 hb with h | h | h | h <;> exact absurd h (by decide)
theorem strB_extract (l : List UInt8) (i j : Nat) : (strB l).extract i j = strB ((l.take j).drop i) := by
  unfold strB
  apply ByteArray.ext
  simp [ByteArray.data_extract, List.drop_take]
end Go.Proofs.Carillon
namespace Go.Proofs.YtdbnanniboiooaaDoor
open Go.RowKit Go.Proofs.Carillon Go.Proofs.YtdbnanniboiooaaDoorW.PrintWords Go.Lib Go.Shelf

set_option maxHeartbeats 1000000 in
theorem slcut_star (h t : List UInt8) (w : World) (hh : ∀ b ∈ h, isLetter b) (hl : h.length + t.length ≤ 1000000) :
    Calls Tryd.prog 137 #[.string (strB (h ++ 42 :: t)), .string ⟨#[42]⟩] w fun e w' => e = .returned (.tuple #[.string (strB h), .string (strB t), .bool true]) ∧ Below w.heap.size w w' := by
  obtain ⟨s, hs⟩ : ∃ s, strB (h ++ 42 :: t) = s := ⟨_, rfl⟩
  have hI := fun W => Tryd.stringslite_Index_one s 42 W
  rw [← hs, strB_list, indexByte_hit (letter_star hh), hs] at hI
  obtain ⟨k, hk⟩ : ∃ k, h.length = k := ⟨_, rfl⟩
  have hsz : s.size = k + 1 + t.length := by rw [← hs, strB_size, List.length_append, List.length_cons]; omega
  have e1 : s.extract 0 k = strB h := by
    rw [← hs, strB_extract, ← hk, List.drop_zero, List.take_left]
  have e2 : s.extract (k + 1) s.size = strB t := by
    rw [hsz, ← hs, strB_extract, ← hk, List.take_of_length_le (by simp; omega)]
    congr 1
    rw [show h ++ 42 :: t = (h ++ [42]) ++ t by simp, List.drop_left' (by simp)]
  have hks : k < s.size := by omega
  have hks1 : k + 1 ≤ s.size := by omega
  have hkb : s.size ≤ 1000001 := by omega
  rw [hk] at hI
  rw [hs]
  have HI := Lib.hid hI
  have E1 := Lib.hid e1
  have E2 := Lib.hid e2
  clear hI e1 e2 hsz hk hs hl hh
  go_enter Tryd.func137, Tryd.ntmps137
  go_wp2_with (go_at_call 148; refine (HI.out _).mono ?_; rintro e w1 ⟨rfl, rfl⟩)
  go_quiet (fail)
  have d1 := E1.out
  have d2 := E2.out
  rw [d1, d2]
  clear d1 d2
  go_wp2
  go_ret3
  exact ⟨rfl, pw_below_drewN (Below.refl _ _) _⟩

set_option maxHeartbeats 1000000 in
theorem slcut_plain (h : List UInt8) (w : World) (hh : ∀ b ∈ h, isLetter b) :
    Calls Tryd.prog 137 #[.string (strB h), .string ⟨#[42]⟩] w fun e w' => e = .returned (.tuple #[.string (strB h), .string ⟨#[]⟩, .bool false]) ∧ Below w.heap.size w w' := by
  have hI := fun W => Tryd.stringslite_Index_one (strB h) 42 W
  rw [strB_list, indexByte_none (letter_star hh)] at hI
  obtain ⟨s, hs⟩ : ∃ s, strB h = s := ⟨_, rfl⟩
  rw [hs] at hI ⊢
  have HI := Lib.hid hI
  clear hI hs
  go_enter Tryd.func137, Tryd.ntmps137
  go_wp2_with (go_at_call 148; refine (HI.out _).mono ?_; rintro e w1 ⟨rfl, rfl⟩)
  go_ret3
  exact ⟨rfl, Below.refl _ _⟩

set_option maxHeartbeats 1000000 in
theorem cut_star (h t : List UInt8) (w : World) (hh : ∀ b ∈ h, isLetter b) (hl : h.length + t.length ≤ 1000000) :
    Calls Tryd.prog 110 #[.string (strB (h ++ 42 :: t)), .string ⟨#[42]⟩] w fun e w' => e = .returned (.tuple #[.string (strB h), .string (strB t), .bool true]) ∧ Below w.heap.size w w' := by
  have hI := fun W => slcut_star h t W hh hl
  have HI := Lib.hid hI
  clear hI
  obtain ⟨x, hx⟩ : ∃ x, strB (h ++ 42 :: t) = x := ⟨_, rfl⟩
  rw [hx] at HI ⊢
  clear hx
  go_enter Tryd.func110, Tryd.ntmps110
  go_wp2_with (go_at_call 137; refine (HI.out _).mono ?_; rintro e w1 ⟨rfl, hb⟩)
  go_ret3
  exact ⟨rfl, hb⟩
set_option maxHeartbeats 1000000 in
theorem cut_plain (h : List UInt8) (w : World) (hh : ∀ b ∈ h, isLetter b) :
    Calls Tryd.prog 110 #[.string (strB h), .string ⟨#[42]⟩] w fun e w' => e = .returned (.tuple #[.string (strB h), .string ⟨#[]⟩, .bool false]) ∧ Below w.heap.size w w' := by
  have hI := fun W => slcut_plain h W hh
  have HI := Lib.hid hI
  clear hI
  obtain ⟨x, hx⟩ : ∃ x, strB h = x := ⟨_, rfl⟩
  rw [hx] at HI ⊢
  clear hx
  go_enter Tryd.func110, Tryd.ntmps110
  go_wp2_with (go_at_call 137; refine (HI.out _).mono ?_; rintro e w1 ⟨rfl, hb⟩)
  go_ret3
  exact ⟨rfl, hb⟩

set_option maxHeartbeats 2000000 in
theorem right_star (h t : List UInt8) (w : World) (hh : ∀ b ∈ h, isLetter b) (ht : ∀ b ∈ t, isLetter b) (hne : t ≠ []) (hl : h.length + t.length ≤ 1000000) :
    Calls Tryd.prog 84 #[.string (strB (h ++ 42 :: t))] w fun e w' => e = .returned (.bool true) ∧ Below w.heap.size w w' := by
  have hC := fun W => cut_star h t W hh hl
  obtain ⟨x, hx⟩ : ∃ x, strB (h ++ 42 :: t) = x := ⟨_, rfl⟩
  obtain ⟨y, hy⟩ : ∃ y, strB h = y := ⟨_, rfl⟩
  obtain ⟨z, hz⟩ : ∃ z, strB t = z := ⟨_, rfl⟩
  obtain ⟨u, hu⟩ : ∃ u, y ++ z = u := ⟨_, rfl⟩
  have hus : u = strB (h ++ t) := by rw [← hu, ← hy, ← hz]; unfold strB; apply ByteArray.ext; simp
  have hul : ∀ b ∈ u.data.toList, isLetter b := by
    rw [hus, strB_list]; intro b hb
    rcases List.mem_append.1 hb with hb | hb
    · exact hh b hb
    · exact ht b hb
  have husz : u.size ≤ 1000000 := by rw [hus, strB_size, List.length_append]; exact hl
  have hys : y.size + z.size ≤ 1000000 := by rw [← hy, ← hz, strB_size, strB_size]; exact hl
  have hzn : z.toList.isEmpty = false := nonempty_toList (by rw [← hz, strB_size]; exact fun e => hne (List.eq_nil_of_length_eq_zero e))
  rw [hx, hy, hz] at hC
  rw [hx]
  have HC := Lib.hid hC
  have HUL := Lib.hid hul
  clear hC hx hy hz hus hul hl hh ht hne
  have kb := fun W => print_bytes (P := Tryd.prog) 9 134 5 Tryd.underlying9 Tryd.underlying134 Tryd.underlying5 u W
  have hy1 : (y.size : Int) ≤ 8388608 := by omega
  have hz1 : (z.size : Int) ≤ 8388608 := by omega
  have hadd := fun W => run_string_add (P := Tryd.prog) W y z hy1 hz1
  go_enter Tryd.func84, Tryd.ntmps84
  go_wp2_with (go_at_call 110; refine (HC.out _).mono ?_; rintro e w1 ⟨rfl, hb⟩)
  generalize hW0 : Lib.bytesWorld w1 5 u = W0
  have hb0 : Below w.heap.size w W0 := by rw [← hW0]; exact bytes_below hb hb.size _ _
  have hcell : ∀ j, j < u.size → W0.cell? ⟨w1.heap.size, j, none⟩ = some (.int .u8 (u.data.toList.getD j 0).toNat) := fun j hj => by rw [← hW0]; exact Lib.bytesWorld_cell w1 _ u j hj
  have HB0 := Lib.hid hb0
  have HCL := Lib.hid hcell
  clear hW0 hb0 hcell kb hadd hb
  go_loopw [19] (fun i wr => ∃ k : Nat, k ≤ u.size ∧ i = .int .i64 k ∧ Below W0.heap.size W0 wr) (fun i _ => u.size - (intOf i).toNat)
  case atStart => exact ⟨0, Nat.zero_le _, rfl, Below.refl _ _⟩
  case round =>
    obtain ⟨k, hk, rfl, hbr⟩ := hrel
    have HBR := Lib.hid hbr
    clear hbr
    by_cases hlt : k < u.size
    · obtain ⟨b, hbv⟩ : ∃ b, u.data.toList.getD k 0 = b := ⟨_, rfl⟩
      have hq := pw_cell_below HBR.out (HCL.out k hlt)
      rw [hbv] at hq
      have hmem : isLetter b := by
        apply HUL.out
        rw [← hbv, List.getD_eq_getElem?_getD, List.getElem?_eq_getElem (show k < u.data.toList.length from hlt)]
        exact List.getElem_mem _
      have hI := fun W => Tryd.strings_IndexByte ⟨#[98, 119, 108, 116]⟩ (b.toNat : Int) W
      have hix := letterIx_pos hmem
      have e1 : Lib.indexByte (⟨#[98, 119, 108, 116]⟩ : ByteArray).data.toList ((b.toNat : Int).toNat.toUInt8) = letterIx b := by
        rw [← letterIx_of]
        congr 1
        simp
      rw [e1] at hI
      obtain ⟨q, hq2⟩ : ∃ q, letterIx b = q := ⟨_, rfl⟩
      rw [hq2] at hI hix
      have q0 := hix.1
      have HI := Lib.hid hI
      obtain ⟨B, hB⟩ : ∃ B : Int, (b.toNat : Int) = B := ⟨_, rfl⟩
      rw [hB] at HI hq
      clear hI hix e1 hmem hbv hq2 hB
      go_wp2_with (go_at_call 85; refine (HI.out _).mono ?_; rintro e w2 ⟨rfl, rfl⟩)
      go_roundw
      case rel => exact ⟨k + 1, by omega, by go_num, HBR.out⟩
      case measure => simp [intOf]; omega
    · obtain rfl : u.size = k := by omega
      go_wp2
      go_ret
      exact ⟨rfl, below_step HB0.out HBR.out⟩

set_option maxHeartbeats 2000000 in
theorem right_plain (h : List UInt8) (w : World) (hh : ∀ b ∈ h, isLetter b) (hl : h.length ≤ 1000000) :
    Calls Tryd.prog 84 #[.string (strB h)] w fun e w' => e = .returned (.bool true) ∧ Below w.heap.size w w' := by
  have hC := fun W => cut_plain h W hh
  obtain ⟨y, hy⟩ : ∃ y, strB h = y := ⟨_, rfl⟩
  obtain ⟨u, hu⟩ : ∃ u, y ++ (⟨#[]⟩ : ByteArray) = u := ⟨_, rfl⟩
  have hus : u = strB h := by rw [← hu, ← hy]; unfold strB; apply ByteArray.ext; simp
  have hul : ∀ b ∈ u.data.toList, isLetter b := by
    rw [hus, strB_list]; exact hh
  have husz : u.size ≤ 1000000 := by rw [hus, strB_size]; exact hl
  have hys : y.size ≤ 1000000 := by rw [← hy, strB_size]; exact hl
  rw [hy] at hC ⊢
  have HC := Lib.hid hC
  have HUL := Lib.hid hul
  clear hC hy hus hul hl hh
  have kb := fun W => print_bytes (P := Tryd.prog) 9 134 5 Tryd.underlying9 Tryd.underlying134 Tryd.underlying5 u W
  have hy1 : (y.size : Int) ≤ 8388608 := by omega
  have hz1 : ((⟨#[]⟩ : ByteArray).size : Int) ≤ 8388608 := by decide
  have hadd := fun W => run_string_add (P := Tryd.prog) W y ⟨#[]⟩ hy1 hz1
  go_enter Tryd.func84, Tryd.ntmps84
  go_wp2_with (go_at_call 110; refine (HC.out _).mono ?_; rintro e w1 ⟨rfl, hb⟩)
  generalize hW0 : Lib.bytesWorld w1 5 u = W0
  have hb0 : Below w.heap.size w W0 := by rw [← hW0]; exact bytes_below hb hb.size _ _
  have hcell : ∀ j, j < u.size → W0.cell? ⟨w1.heap.size, j, none⟩ = some (.int .u8 (u.data.toList.getD j 0).toNat) := fun j hj => by rw [← hW0]; exact Lib.bytesWorld_cell w1 _ u j hj
  have HB0 := Lib.hid hb0
  have HCL := Lib.hid hcell
  clear hW0 hb0 hcell kb hadd hb
  go_loopw [19] (fun i wr => ∃ k : Nat, k ≤ u.size ∧ i = .int .i64 k ∧ Below W0.heap.size W0 wr) (fun i _ => u.size - (intOf i).toNat)
  case atStart => exact ⟨0, Nat.zero_le _, rfl, Below.refl _ _⟩
  case round =>
    obtain ⟨k, hk, rfl, hbr⟩ := hrel
    have HBR := Lib.hid hbr
    clear hbr
    by_cases hlt : k < u.size
    · obtain ⟨b, hbv⟩ : ∃ b, u.data.toList.getD k 0 = b := ⟨_, rfl⟩
      have hq := pw_cell_below HBR.out (HCL.out k hlt)
      rw [hbv] at hq
      have hmem : isLetter b := by
        apply HUL.out
        rw [← hbv, List.getD_eq_getElem?_getD, List.getElem?_eq_getElem (show k < u.data.toList.length from hlt)]
        exact List.getElem_mem _
      have hI := fun W => Tryd.strings_IndexByte ⟨#[98, 119, 108, 116]⟩ (b.toNat : Int) W
      have hix := letterIx_pos hmem
      have e1 : Lib.indexByte (⟨#[98, 119, 108, 116]⟩ : ByteArray).data.toList ((b.toNat : Int).toNat.toUInt8) = letterIx b := by
        rw [← letterIx_of]
        congr 1
        simp
      rw [e1] at hI
      obtain ⟨q, hq2⟩ : ∃ q, letterIx b = q := ⟨_, rfl⟩
      rw [hq2] at hI hix
      have q0 := hix.1
      have HI := Lib.hid hI
      obtain ⟨B, hB⟩ : ∃ B : Int, (b.toNat : Int) = B := ⟨_, rfl⟩
      rw [hB] at HI hq
      clear hI hix e1 hmem hbv hq2 hB
      go_wp2_with (go_at_call 85; refine (HI.out _).mono ?_; rintro e w2 ⟨rfl, rfl⟩)
      go_roundw
      case rel => exact ⟨k + 1, by omega, by go_num, HBR.out⟩
      case measure => simp [intOf]; omega
    · obtain rfl : u.size = k := by omega
      go_wp2
      go_ret
      exact ⟨rfl, below_step HB0.out HBR.out⟩
end Go.Proofs.YtdbnanniboiooaaDoor
namespace Go.Proofs.Carillon
/-- The number that some bytes tell, the greatest first. -/
def valL (l : List UInt8) : Nat := l.foldl (fun n c => n * 256 + c.toNat) 0
theorem valL_snoc (l : List UInt8) (c : UInt8) : valL (l ++ [c]) = valL l * 256 + c.toNat := by simp [valL, List.foldl_append]
theorem valL_fold (l : List UInt8) : ∀ (n a : Nat), n < 256 ^ a → l.foldl (fun n c => n * 256 + c.toNat) n < 256 ^ (a + l.length) := by
  induction l with
  | nil => intro n a h; exact h
  | cons c l ih =>
    intro n a h
    have hc := c.toNat_lt
    have := ih (n * 256 + c.toNat) (a + 1) (by rw [Nat.pow_succ]; omega)
    rw [List.length_cons, show a + (l.length + 1) = a + 1 + l.length by omega]
    exact this
theorem valL_lt (l : List UInt8) : valL l < 256 ^ l.length := by
  have := valL_fold l 0 0 (by decide)
  rw [Nat.zero_add] at this
  exact this
end Go.Proofs.Carillon
namespace Go.Proofs.YtdbnanniboiooaaDoor
open Go.RowKit Go.Proofs.Carillon Go.Proofs.YtdbnanniboiooaaDoorW.PrintWords Go.Lib Go.Shelf
def RdAt (w : World) (b : Nat) (l : List UInt8) (err : Int) : Prop := w.heap[b]? = some (.cells #[.string (strB l), .int .i64 err] 153 (0, 0))

set_option maxHeartbeats 2000000 in
theorem number_short (w : World) (b : Nat) (l : List UInt8) (e0 : Int) (size : Nat) (hR : RdAt w b l e0) (hs : l.length < size) :
    Calls Tryd.prog 87 #[.pointer (some ⟨b, 0, none⟩), .int .i64 size] w fun e w' => e = .returned (.int .u64 0) ∧ RdAt w' b l 2 ∧ Turned (fun k => k = b) w w' := by
  have c0 := cell_blk (j := 0) hR rfl
  have c1 := cell_blk (j := 1) hR rfl
  have f1 := free_blk (j := 1) hR
  have hsz : (strB l).size < size := by rw [strB_size]; exact hs
  obtain ⟨s, hs'⟩ : ∃ s, strB l = s := ⟨_, rfl⟩
  rw [hs'] at hsz c0
  have HR := Lib.hid hR
  clear hR hs hs'
  go_enter Tryd.func87, Tryd.ntmps87
  go_wp2
  go_ret
  exact ⟨rfl, blk_put HR.out 1 _ rfl, Turned.of_cell b 1 _ rfl⟩

set_option maxHeartbeats 4000000 in
theorem number_ok (w : World) (b : Nat) (l : List UInt8) (e0 : Int) (size : Nat) (hR : RdAt w b l e0) (hs : size ≤ l.length) (hl : size ≤ 8) (hll : l.length ≤ 1000000000000) :
    Calls Tryd.prog 87 #[.pointer (some ⟨b, 0, none⟩), .int .i64 size] w fun e w' => e = .returned (.int .u64 (valL (l.take size))) ∧ RdAt w' b (l.drop size) e0 ∧ Turned (fun k => k = b) w w' := by
  have c0 : w.cell? ⟨b, 0, none⟩ = some (.string (strB l)) := cell_blk (j := 0) hR rfl
  have f0 := free_blk (j := 0) hR
  obtain ⟨s, hs'⟩ : ∃ s, strB l = s := ⟨_, rfl⟩
  have hsz : s.size = l.length := by rw [← hs', strB_size]
  have e1 : s.extract 0 size = strB (l.take size) := by rw [← hs', strB_extract, List.drop_zero]
  have e2 : s.extract size s.size = strB (l.drop size) := by rw [hsz, ← hs', strB_extract, List.take_of_length_le (Nat.le_refl _)]
  obtain ⟨u, hu⟩ : ∃ u, strB (l.take size) = u := ⟨_, rfl⟩
  obtain ⟨x, hx⟩ : ∃ x, strB (l.drop size) = x := ⟨_, rfl⟩
  have hus : u.size = size := by rw [← hu, strB_size, List.length_take]; omega
  have hul : u.data.toList = l.take size := by rw [← hu, strB_list]
  have hs1 : size ≤ s.size := by omega
  have hu8 : u.size ≤ 8 := by omega
  have hs2 : s.size ≤ 1000000000000 := by omega
  rw [hs'] at c0
  rw [hu] at e1
  rw [hx] at e2
  have hbl := blk_lt hR
  have kb := fun W => print_bytes (P := Tryd.prog) 9 134 5 Tryd.underlying9 Tryd.underlying134 Tryd.underlying5 u W
  have HR := Lib.hid hR
  have HX := Lib.hid hx
  have HUS := Lib.hid hus
  have HUL := Lib.hid hul
  clear hR hs' hsz hu hx hus hul hs
  go_enter Tryd.func87, Tryd.ntmps87
  go_wp2
  generalize hW0 : Lib.bytesWorld w 5 u = W0
  have hb0 : Below w.heap.size w W0 := by rw [← hW0]; exact bytes_below (Below.refl _ _) (Nat.le_refl _) _ _
  have hcell : ∀ j, j < u.size → W0.cell? ⟨w.heap.size, j, none⟩ = some (.int .u8 (u.data.toList.getD j 0).toNat) := fun j hj => by rw [← hW0]; exact Lib.bytesWorld_cell w _ u j hj
  have HB0 := Lib.hid hb0
  have HCL := Lib.hid hcell
  obtain ⟨U, hU⟩ : ∃ U, u.data.toList = U := ⟨_, rfl⟩
  have hUn : U.length = u.size := by rw [← hU]; exact Array.length_toList
  have HUN := Lib.hid hUn
  rw [hU] at HUL HCL
  clear hW0 hb0 hcell kb hU hUn
  go_loopw [26, 5] (fun i n wr => ∃ k : Nat, k ≤ u.size ∧ i = .int .i64 k ∧ n = .int .u64 (valL (U.take k)) ∧ Below W0.heap.size W0 wr) (fun i _ _ => u.size - (intOf i).toNat)
  case atStart => exact ⟨0, Nat.zero_le _, rfl, rfl, Below.refl _ _⟩
  case round =>
    obtain ⟨k, hk, rfl, rfl, hbr⟩ := hrel
    have HBR := Lib.hid hbr
    clear hbr
    by_cases hlt : k < u.size
    · obtain ⟨B, hbv⟩ : ∃ B, U.getD k 0 = B := ⟨_, rfl⟩
      have hq := pw_cell_below HBR.out (HCL.out k hlt)
      rw [hbv] at hq
      have hkl : k < U.length := by rw [HUN.out]; exact hlt
      have hst : U.take (k + 1) = U.take k ++ [B] := by
        rw [List.take_add_one, List.getElem?_eq_getElem hkl, ← hbv, List.getD_eq_getElem?_getD, List.getElem?_eq_getElem hkl]
        rfl
      obtain ⟨V, hV⟩ : ∃ V, valL (U.take k) = V := ⟨_, rfl⟩
      have hV1 : valL (U.take (k + 1)) = V * 256 + B.toNat := by rw [hst, valL_snoc, hV]
      have hVl : V < 72057594037927936 := by
        have := valL_lt (U.take k)
        have h2 : (U.take k).length ≤ 7 := by rw [List.length_take]; have := HUS.out; omega
        have h3 : (256 : Nat) ^ (U.take k).length ≤ 256 ^ 7 := Nat.pow_le_pow_right (by decide) h2
        rw [hV] at this
        omega
      have hBl := B.toNat_lt
      have hor : bits .or .u64 ((V : Int) * 256) (B.toNat : Int) = ((V * 256 + B.toNat : Nat) : Int) := by
        rw [show ((V : Int) * 256) = ((V * 256 : Nat) : Int) by omega, bits_or_u64_nat _ _ (by omega) (by omega)]
        congr 1
        have := Nat.two_pow_add_eq_or_of_lt (show B.toNat < 2 ^ 8 from hBl) V
        rw [Nat.mul_comm V 256]
        exact this.symm
      rw [hV]
      have HOR := Lib.hid hor
      have HV1 := Lib.hid hV1
      obtain ⟨c, hc⟩ : ∃ c : Int, (B.toNat : Int) = c := ⟨_, rfl⟩
      obtain ⟨V', hV'⟩ : ∃ V' : Int, (V : Int) = V' := ⟨_, rfl⟩
      rw [hc] at hq
      rw [hc, hV'] at HOR
      rw [hV']
      have b1 : 0 ≤ c := by omega
      have b2 : c < 256 := by omega
      have b3 : 0 ≤ V' := by omega
      have b4 : V' < 72057594037927936 := by omega
      clear hor hV1 hbv hst hkl hV hc hV' hVl hBl
      go_wp2
      go_roundw
      case rel => rw [HOR.out]; exact ⟨k + 1, by omega, by go_num, by rw [HV1.out], HBR.out⟩
      case measure => simp [intOf]; omega
    · obtain rfl : u.size = k := by omega
      have hRr : RdAt wr b l e0 := below_at (w := W0) HBR.out (below_at (w := w) HB0.out HR.out)
      have cW := pw_cell_below HBR.out (pw_cell_below HB0.out c0)
      have fW : wr.frozen? ⟨b, 0, none⟩ = false := free_blk (j := 0) hRr
      have HRR := Lib.hid hRr
      clear hRr
      go_wp2
      go_ret
      refine ⟨?_, ?_, ?_⟩
      · have e : U.take u.size = l.take size := by rw [← HUL.out]; exact List.take_of_length_le (by rw [HUN.out]; exact Nat.le_refl _)
        exact congrArg (fun q => Ending.returned (.int .u64 ((valL q : Nat) : Int))) e
      · have := blk_put HRR.out 0 (.string x) rfl
        rw [← HX.out] at this
        rw [← HX.out]
        exact this
      · exact ((Turned.of_below (below_step HB0.out HBR.out)).trans (Turned.of_cell (ok := fun k => k = b) (w := wr) b 0 _ rfl) (fun _ h => Or.inl h))
end Go.Proofs.YtdbnanniboiooaaDoor
namespace Go.Proofs.Carillon
/-- A text out of bytes: the text, what is left, the error. -/
def textL (l : List UInt8) : List UInt8 × List UInt8 × Int :=
  if l.length < 4 then ([], l, 2) else
  if 100000 < valL (l.take 4) then ([], l.drop 4, 3) else
  if (l.drop 4).length < valL (l.take 4) then ([], l.drop 4, 2) else
  ((l.drop 4).take (valL (l.take 4)), (l.drop 4).drop (valL (l.take 4)), 0)
end Go.Proofs.Carillon
namespace Go.Proofs.YtdbnanniboiooaaDoor
open Go.RowKit Go.Proofs.Carillon Go.Proofs.YtdbnanniboiooaaDoorW.PrintWords Go.Lib Go.Shelf
def TextPost (w : World) (b : Nat) (l : List UInt8) (e : Ending) (w' : World) : Prop :=
  e = .returned (.string (strB (textL l).1)) ∧ RdAt w' b (textL l).2.1 (textL l).2.2 ∧ Turned (fun k => k = b) w w'

set_option maxHeartbeats 4000000 in
theorem text_any (w : World) (b : Nat) (l : List UInt8) (hR : RdAt w b l 0) (hll : l.length ≤ 1000000000000) :
    Calls Tryd.prog 86 #[.pointer (some ⟨b, 0, none⟩)] w (TextPost w b l) := by
  by_cases h4 : l.length < 4
  · have hN := fun W (h : RdAt W b l 0) => number_short W b l 0 4 h h4
    have hT : textL l = ([], l, 2) := if_pos h4
    have hP : ∀ e w', e = .returned (.string ⟨#[]⟩) → RdAt w' b l 2 → Turned (fun k => k = b) w w' → TextPost w b l e w' := by
      intro e w' h1 h2 h3; unfold TextPost; rw [hT]; exact ⟨h1, h2, h3⟩
    have HN := Lib.hid hN
    have HP := Lib.hid hP
    have HR := Lib.hid hR
    clear hN hT hP hR h4
    go_enter Tryd.func86, Tryd.ntmps86
    go_wp2_with (go_at_call 87; refine (HN.out _ HR.out).mono ?_; rintro e w1 ⟨rfl, hR1, ht1⟩; have c1 : w1.cell? ⟨b, 1, none⟩ = some (.int .i64 2) := cell_blk (j := 1) hR1 rfl)
    go_ret
    exact HP.out _ _ rfl hR1 ht1
  · have hN := fun W (h : RdAt W b l 0) => number_ok W b l 0 4 h (by omega) (by decide) hll
    obtain ⟨n, hn⟩ : ∃ n, valL (l.take 4) = n := ⟨_, rfl⟩
    obtain ⟨r, hr⟩ : ∃ r, l.drop 4 = r := ⟨_, rfl⟩
    have hrl : r.length ≤ 1000000000000 := by rw [← hr, List.length_drop]; omega
    have hnl : n < 18446744073709551616 := by
      have := valL_lt (l.take 4)
      have h2 : (l.take 4).length ≤ 4 := by rw [List.length_take]; omega
      have h3 : (256 : Nat) ^ (l.take 4).length ≤ 256 ^ 4 := Nat.pow_le_pow_right (by decide) h2
      rw [hn] at this
      omega
    rw [hn, hr] at hN
    have hT : textL l = if 100000 < n then ([], r, 3) else if r.length < n then ([], r, 2) else (r.take n, r.drop n, 0) := by
      unfold textL; rw [if_neg h4, hn, hr]
    by_cases h5 : 100000 < n
    · rw [if_pos h5] at hT
      have hP : ∀ e w', e = .returned (.string ⟨#[]⟩) → RdAt w' b r 3 → Turned (fun k => k = b) w w' → TextPost w b l e w' := by
        intro e w' h1 h2 h3; unfold TextPost; rw [hT]; exact ⟨h1, h2, h3⟩
      have HN := Lib.hid hN
      have HP := Lib.hid hP
      have HR := Lib.hid hR
      clear hN hT hP hR h4 hn hr
      go_enter Tryd.func86, Tryd.ntmps86
      go_wp2_with (go_at_call 87; refine (HN.out _ HR.out).mono ?_; rintro e w1 ⟨rfl, hR1, ht1⟩; have c1 : w1.cell? ⟨b, 1, none⟩ = some (.int .i64 0) := cell_blk (j := 1) hR1 rfl; have f1 : w1.frozen? ⟨b, 1, none⟩ = false := free_blk (j := 1) hR1)
      go_ret
      exact HP.out _ _ rfl (blk_put hR1 1 _ rfl) (ht1.trans (Turned.of_cell (ok := fun k => k = b) b 1 _ rfl) (fun _ h => Or.inl h))
    · rw [if_neg h5] at hT
      by_cases h6 : r.length < n
      · rw [if_pos h6] at hT
        have hP : ∀ e w', e = .returned (.string ⟨#[]⟩) → RdAt w' b r 2 → Turned (fun k => k = b) w w' → TextPost w b l e w' := by
          intro e w' h1 h2 h3; unfold TextPost; rw [hT]; exact ⟨h1, h2, h3⟩
        have HN := Lib.hid hN
        have HP := Lib.hid hP
        have HR := Lib.hid hR
        obtain ⟨s, hs⟩ : ∃ s, strB r = s := ⟨_, rfl⟩
        have hsz : s.size = r.length := by rw [← hs, strB_size]
        have hs6 : s.size < n := by omega
        have hs7 : s.size ≤ 1000000000000 := by omega
        have HS := Lib.hid hs
        clear hN hT hP hR h4 hn hr h6 hsz hrl hs
        go_enter Tryd.func86, Tryd.ntmps86
        go_wp2_with (go_at_call 87; refine (HN.out _ HR.out).mono ?_; rintro e w1 ⟨rfl, hR1, ht1⟩; have c0 : w1.cell? ⟨b, 0, none⟩ = some (.string s) := HS.out ▸ cell_blk (j := 0) hR1 rfl; have c1 : w1.cell? ⟨b, 1, none⟩ = some (.int .i64 0) := cell_blk (j := 1) hR1 rfl; have f1 : w1.frozen? ⟨b, 1, none⟩ = false := free_blk (j := 1) hR1)
        go_ret
        exact HP.out _ _ rfl (blk_put hR1 1 _ rfl) (ht1.trans (Turned.of_cell (ok := fun k => k = b) b 1 _ rfl) (fun _ h => Or.inl h))
      · rw [if_neg h6] at hT
        obtain ⟨s, hs⟩ : ∃ s, strB r = s := ⟨_, rfl⟩
        have hsz : s.size = r.length := by rw [← hs, strB_size]
        have hs6 : n ≤ s.size := by omega
        have hs7 : s.size ≤ 1000000000000 := by omega
        obtain ⟨u, hu⟩ : ∃ u, strB (r.take n) = u := ⟨_, rfl⟩
        obtain ⟨x, hx⟩ : ∃ x, strB (r.drop n) = x := ⟨_, rfl⟩
        have e1 : s.extract 0 n = u := by rw [← hs, strB_extract, List.drop_zero, hu]
        have e2 : s.extract n s.size = x := by rw [hsz, ← hs, strB_extract, List.take_of_length_le (Nat.le_refl _), hx]
        have hP : ∀ e w', e = .returned (.string u) → RdAt w' b (r.drop n) 0 → Turned (fun k => k = b) w w' → TextPost w b l e w' := by
          intro e w' h1 h2 h3; unfold TextPost; rw [hT, ← hu] at *; exact ⟨h1, h2, h3⟩
        have HN := Lib.hid hN
        have HP := Lib.hid hP
        have HR := Lib.hid hR
        have HS := Lib.hid hs
        have HX := Lib.hid hx
        have h5' : n ≤ 100000 := by omega
        clear hN hT hP hR h4 hn hr h6 hsz hrl hs hu hx h5
        go_enter Tryd.func86, Tryd.ntmps86
        go_wp2_with (go_at_call 87; refine (HN.out _ HR.out).mono ?_; rintro e w1 ⟨rfl, hR1, ht1⟩; have c0 : w1.cell? ⟨b, 0, none⟩ = some (.string s) := HS.out ▸ cell_blk (j := 0) hR1 rfl; have c1 : w1.cell? ⟨b, 1, none⟩ = some (.int .i64 0) := cell_blk (j := 1) hR1 rfl; have f0 : w1.frozen? ⟨b, 0, none⟩ = false := free_blk (j := 0) hR1)
        go_ret
        exact HP.out _ _ rfl (HX.out.symm ▸ blk_put hR1 0 (.string x) rfl) (ht1.trans (Turned.of_cell (ok := fun k => k = b) b 0 _ rfl) (fun _ h => Or.inl h))
end Go.Proofs.YtdbnanniboiooaaDoor
