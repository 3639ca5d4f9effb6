/- compact.parted leaves the last record of each key that is not empty, and those from an offset on. -/
import Derived.Test.YtdbnanniboiooaaDoorZPub
set_option linter.unusedVariables false
set_option linter.unusedSimpArgs false
namespace Go.Proofs.Carillon
/-- At each key the last place. -/
def marks : List Rec → Nat → List (ByteArray × Int) → List (ByteArray × Int)
  | [], _, m => m
  | r :: l, i, m => marks l (i + 1) (mput m r.key (i : Int))
theorem marks_append : ∀ (l l' : List Rec) (i : Nat) (m : List (ByteArray × Int)), marks (l ++ l') i m = marks l' (i + l.length) (marks l i m)
  | [], l', i, m => by simp [marks]
  | r :: l, l', i, m => by
    simp only [List.cons_append, marks, List.length_cons]
    rw [marks_append l l' (i + 1)]
    congr 1; omega
theorem marks_length : ∀ (l : List Rec) (i : Nat) (m : List (ByteArray × Int)), (marks l i m).length ≤ m.length + l.length
  | [], i, m => by simp [marks]
  | r :: l, i, m => by
    simp only [marks, List.length_cons]
    have := marks_length l (i + 1) (mput m r.key (i : Int))
    have := length_put m r.key (i : Int)
    omega
theorem marks_miss : ∀ (l : List Rec) (i : Nat) (m : List (ByteArray × Int)) (s : ByteArray), (∀ r ∈ l, r.key ≠ s) → mget (marks l i m) s = mget m s
  | [], i, m, s, _ => rfl
  | r :: l, i, m, s, h => by
    simp only [marks]
    rw [marks_miss l (i + 1) _ s (fun q hq => h q (List.mem_cons_of_mem _ hq)), mget_put_other _ (fun e => h r List.mem_cons_self e.symm)]
theorem marks_hit : ∀ (l : List Rec) (i : Nat) (m : List (ByteArray × Int)) (s : ByteArray), (∃ r ∈ l, r.key = s) → ∃ j : Nat, mget (marks l i m) s = some (j : Int) ∧ i ≤ j
  | [], i, m, s, h => by obtain ⟨r, hr, _⟩ := h; simp at hr
  | r :: l, i, m, s, h => by
    simp only [marks]
    by_cases hl : ∃ q ∈ l, q.key = s
    · obtain ⟨j, h1, h2⟩ := marks_hit l (i + 1) (mput m r.key (i : Int)) s hl
      exact ⟨j, h1, by omega⟩
    · have hr : r.key = s := by
        obtain ⟨q, hq, e⟩ := h
        rcases List.mem_cons.1 hq with rfl | hq
        · exact e
        · exact absurd ⟨q, hq, e⟩ hl
      rw [marks_miss l (i + 1) _ s (fun q hq e => hl ⟨q, hq, e⟩), hr, mget_put_same]
      exact ⟨i, rfl, Nat.le_refl _⟩
/-- Does the i-th record give way to a later one? -/
def sup (l : List Rec) (upto : Int) (i : Nat) : Bool :=
  !((l.getD i zRec).key.toList.isEmpty) && (l.drop (i + 1)).any (fun r => decide (r.key = (l.getD i zRec).key)) && decide ((l.getD i zRec).off < upto)
def stayK (l : List Rec) (upto : Int) (k : Nat) : List Rec := ((List.range k).filter fun i => !sup l upto i).map fun i => l.getD i zRec
def goneK (l : List Rec) (upto : Int) (k : Nat) : List Int := ((List.range k).filter fun i => sup l upto i).map fun i => (l.getD i zRec).off
def keepL (l : List Rec) (upto : Int) : List Rec := stayK l upto l.length
def goneL (l : List Rec) (upto : Int) : List Int := goneK l upto l.length
theorem stayK_succ (l : List Rec) (upto : Int) (k : Nat) : stayK l upto (k + 1) = if sup l upto k then stayK l upto k else stayK l upto k ++ [l.getD k zRec] := by
  unfold stayK; rw [List.range_succ, List.filter_append, List.map_append]
  cases h : sup l upto k <;> simp [h]
theorem goneK_succ (l : List Rec) (upto : Int) (k : Nat) : goneK l upto (k + 1) = if sup l upto k then goneK l upto k ++ [(l.getD k zRec).off] else goneK l upto k := by
  unfold goneK; rw [List.range_succ, List.filter_append, List.map_append]
  cases h : sup l upto k <;> simp [h]
theorem stayK_length (l : List Rec) (upto : Int) (k : Nat) : (stayK l upto k).length ≤ k := by
  unfold stayK; rw [List.length_map]; exact Nat.le_trans (List.length_filter_le _ _) (by simp)
theorem goneK_length (l : List Rec) (upto : Int) (k : Nat) : (goneK l upto k).length ≤ k := by
  unfold goneK; rw [List.length_map]; exact Nat.le_trans (List.length_filter_le _ _) (by simp)
theorem take_snoc' (l : List Rec) (k : Nat) (h : k < l.length) : l.take (k + 1) = l.take k ++ [l.getD k zRec] := by
  rw [List.take_succ_eq_append_getElem h, List.getD_eq_getElem?_getD, List.getElem?_eq_getElem h]; rfl
theorem marks_take (l : List Rec) (k : Nat) (h : k < l.length) : marks (l.take (k + 1)) 0 [] = mput (marks (l.take k) 0 []) (l.getD k zRec).key (k : Int) := by
  rw [take_snoc' l k h, marks_append]
  simp only [marks, List.length_take, Nat.zero_add]
  rw [Nat.min_eq_left (Nat.le_of_lt h)]
/-- The last place of the k-th record's key is above k just if a later record has the key. -/
theorem marks_later (l : List Rec) (k : Nat) (h : k < l.length) : ∃ j : Nat, mget (marks l 0 []) (l.getD k zRec).key = some (j : Int) ∧ (l.drop (k + 1)).any (fun r => decide (r.key = (l.getD k zRec).key)) = decide ((k : Int) < (j : Int)) := by
  have e : l = l.take (k + 1) ++ l.drop (k + 1) := (List.take_append_drop _ _).symm
  have e2 : marks l 0 [] = marks (l.drop (k + 1)) (k + 1) (marks (l.take (k + 1)) 0 []) := by
    conv => lhs; rw [e]
    rw [marks_append, List.length_take, Nat.min_eq_left (by omega), Nat.zero_add]
  rw [e2]
  by_cases ha : ∃ r ∈ l.drop (k + 1), r.key = (l.getD k zRec).key
  · obtain ⟨j, h1, h2⟩ := marks_hit (l.drop (k + 1)) (k + 1) (marks (l.take (k + 1)) 0 []) (l.getD k zRec).key ha
    refine ⟨j, h1, ?_⟩
    rw [Bool.eq_iff_iff, List.any_eq_true, decide_eq_true_iff]
    obtain ⟨r, hr, e⟩ := ha
    exact ⟨fun _ => by omega, fun _ => ⟨r, hr, by simpa using e⟩⟩
  · refine ⟨k, by rw [marks_miss _ _ _ _ (fun r hr e => ha ⟨r, hr, e⟩), marks_take l k h, mget_put_same], ?_⟩
    rw [Bool.eq_iff_iff, List.any_eq_true, decide_eq_true_iff]
    exact ⟨fun ⟨r, hr, e⟩ => absurd ⟨r, hr, by simpa using e⟩ ha, fun h => by omega⟩
def Tp.compact (T : Tp) (upto : Int) : Tp := { T with recs := keepL T.recs upto }
def encI (x : Int) : Value := .int .i64 x
end Go.Proofs.Carillon
namespace Go.Proofs.YtdbnanniboiooaaDoor
open Go.RowKit Go.Proofs.Carillon Go.Proofs.YtdbnanniboiooaaDoorW.PrintWords Go.Lib Go.Shelf
abbrev IntsAt (w : World) (ok : Nat → Prop) (v : Value) (l : List Int) : Prop := Kd.R (Kd.int .i64) 3 w 0 ok v l
theorem infoInt : (Tryd.prog.info? 3).map (fun i => (i.zero, i.size, i.bytes)) = some (some (.int .i64 0), 1, 8) := by kernel_rfl
theorem zeroInt (W : World) : (zeroValue 3).run Tryd.prog W = .ok (.int .i64 0) W := by kernel_rfl

/-- A row of another element type stays as it is. -/
theorem R_apart {α β : Type} {d : Kd α} {d' : Kd β} {e e' : Nat} {w w1 : World} {b b' : Nat} {ok ok' : Nat → Prop} {v v' : Value} {xs : List α} {ys : List β} (h : Kd.R d e w b ok v xs) (h' : Kd.R d' e' w b' ok' v' ys) (he : ∀ q ∈ e :: d.E, q ≠ e')
    (hg : w.grownBy w1 v'.ownBlock) : Kd.R d e w1 b ok v xs := by
  refine Kd.R_mono (Kd.R_move (Kd.R_bound h) (fun k hk => ?_)) (fun k hk => hk.1)
  obtain ⟨_, _, hlt, q, hq, cells, hc⟩ := hk
  refine hg.block k hlt (fun ek => ?_)
  obtain ⟨inner, ho⟩ := Kd.R_own h'
  obtain ⟨cells', hc'⟩ := own_typed ho k ek.symm
  rw [hc] at hc'
  injection hc' with hc'
  injection hc' with _ ht
  exact he q hq ht
/-- A map stays as it is while a row is written. -/
theorem map_apart {α β : Type} {P : Program} {k : TypeId} {enc : α → Value} {m : List (ByteArray × α)} {d' : Kd β} {e' bm : Nat} {w w1 : World} {b' : Nat} {ok' : Nat → Prop} {v' : Value} {ys : List β} (h : MapOf P k enc w bm m) (h' : Kd.R d' e' w b' ok' v' ys)
    (hg : w.grownBy w1 v'.ownBlock) : MapOf P k enc w1 bm m := by
  obtain ⟨es, c, hm⟩ := h.isMap
  refine h.move (hg.block bm h.lt (fun e => ?_))
  obtain ⟨inner, ho⟩ := Kd.R_own h'
  obtain ⟨cells', hc'⟩ := own_typed ho bm e.symm
  rw [hc'] at hm; cases hm

def PartRel (w : World) (l : List Rec) (upto : Int) (k : Nat) (v u : Value) (wr : World) : Prop :=
  RecsAt wr (fun k => w.heap.size ≤ k) v (stayK l upto k) ∧ IntsAt wr (fun k => w.heap.size ≤ k) u (goneK l upto k) ∧ MapOf Tryd.prog 9 encI wr w.heap.size (marks l 0 []) ∧ Below w.heap.size w wr
theorem PartRel.alloc {w wr : World} {l : List Rec} {upto : Int} {k : Nat} {v u : Value} (h : PartRel w l upto k v u wr) (o : Obj) : PartRel w l upto k v u (wr.alloc o) :=
  ⟨Kd.R_alloc h.1 o, Kd.R_alloc h.2.1 o, h.2.2.1.move (Below.heap_alloc _ _ _ h.2.2.1.lt), below_alloc h.2.2.2 o⟩
theorem PartRel.stay {w W w1 : World} {l : List Rec} {upto : Int} {k : Nat} {v u v1 : Value} (h : PartRel w l upto k v u W) (hs : sup l upto k = false) (hv : RecsAt w1 (fun k => w.heap.size ≤ k) v1 (stayK l upto k ++ [l.getD k zRec])) (hg : W.grownBy w1 v.ownBlock) : PartRel w l upto (k + 1) v1 u w1 := by
  obtain ⟨h1, h2, h3, h4⟩ := h
  refine ⟨?_, ?_, map_apart h3 h1 hg, h4.grown hg h4.size (fun k hk => h1.1 k hk)⟩
  · rw [stayK_succ, hs]; exact hv
  · rw [goneK_succ, hs]; exact R_apart h2 h1 (by intro q hq; simp only [Kd.int, Kd.scalar, List.mem_cons, List.not_mem_nil, or_false] at hq; subst hq; decide) hg
theorem PartRel.gone {w W w1 : World} {l : List Rec} {upto : Int} {k : Nat} {v u u1 : Value} (h : PartRel w l upto k v u W) (hs : sup l upto k = true) (hv : IntsAt w1 (fun k => w.heap.size ≤ k) u1 (goneK l upto k ++ [(l.getD k zRec).off])) (hg : W.grownBy w1 u.ownBlock) : PartRel w l upto (k + 1) v u1 w1 := by
  obtain ⟨h1, h2, h3, h4⟩ := h
  refine ⟨?_, ?_, map_apart h3 h2 hg, h4.grown hg h4.size (fun k hk => h2.1 k hk)⟩
  · rw [stayK_succ, hs]; exact R_apart h1 h2 (by intro q hq; simp only [kRec, flat, List.mem_cons, List.not_mem_nil, or_false] at hq; subst hq; decide) hg
  · rw [goneK_succ, hs]; exact hv

def PartedPost (w : World) (l : List Rec) (upto : Int) (e : Ending) (w' : World) : Prop :=
  ∃ v u, e = .returned (.tuple #[v, u]) ∧ RecsAt w' (fun k => w.heap.size ≤ k) v (keepL l upto) ∧ IntsAt w' (fun k => w.heap.size ≤ k) u (goneL l upto) ∧ Below w.heap.size w w'

set_option maxRecDepth 100000 in
set_option maxHeartbeats 4000000 in
theorem parted_any (w : World) (n c : Nat) (A : Option Addr) (l : List Rec) (hC : RecsIn w A n l) (hn : n ≤ 1000000) (hk : ∀ r ∈ l, r.key.size ≤ 1000000) (upto : Int) :
    Calls Tryd.prog 83 #[.slice A n c, .int .i64 upto] w (PartedPost w l upto) := by
  have hl : l.length = n := hC.1
  have HC := Lib.hid hC
  have HL := Lib.hid hl
  have HK := Lib.hid hk
  clear hC hl hk
  have hmm := @run_makeMap Tryd.prog
  go_enter Tryd.func83, Tryd.ntmps83
  go_wp2
  go_loopw [14] (fun i wr => ∃ k : Nat, k ≤ n ∧ i = .int .i64 k ∧ MapOf Tryd.prog 9 encI wr w.heap.size (marks (l.take k) 0 []) ∧ Below w.heap.size w wr) (fun i _ => n - (intOf i).toNat)
  case atStart => exact ⟨0, Nat.zero_le _, rfl, MapOf.made w _ _ _, below_alloc (Below.refl _ _) _⟩
  case round =>
    obtain ⟨k, hk, rfl, hm, hb⟩ := hrel
    have HM := Lib.hid hm
    have HB := Lib.hid hb
    clear hm hb
    by_cases hlt : k < n
    · obtain ⟨ad, r, rfl, hr, p0, p1, p2, p3, p4⟩ := rec_nat (Kd.C_below HC.out HB.out) k hlt
      have hrk : r.key.size ≤ maxLen := by
        have h1 : r ∈ l := by
          rw [← hr, List.getD_eq_getElem?_getD, List.getElem?_eq_getElem (by rw [HL.out]; exact hlt)]
          exact List.getElem_mem _
        have := HK.out r h1
        unfold maxLen; omega
      have HR := Lib.hid hr
      have HRK := Lib.hid hrk
      clear hr hrk
      have ho : ∀ o, MapOf Tryd.prog 9 encI (wr.alloc o) w.heap.size (marks (l.take k) 0 []) := fun o => HM.out.move (Below.heap_alloc _ _ _ HM.out.lt)
      have hml : (marks (l.take k) 0 []).length < maxLen := by
        have := marks_length (l.take k) 0 []
        rw [List.length_take, HL.out] at this
        unfold maxLen; simp at this; omega
      have HO := Lib.hid ho
      have HML := Lib.hid hml
      clear ho hml
      go_wp2_with (at_mapUpdate; refine wpList_map_store encI _ rfl _ _ _ 189 rfl 9 3 Tryd.underlying9 Tryd.underlying189 w.heap.size _ rfl (HO.out _) HML.out r.key HRK.out (k : Int) rfl rfl ?_; intro w1 hm1 ht1)
      go_roundw
      case rel => exact ⟨k + 1, by omega, by go_num, by rw [marks_take l k (by rw [HL.out]; exact hlt), HR.out]; exact hm1, HB.out.trans (((below_alloc (Below.refl _ _) _).mono HB.out.size).grown ht1.grown (Nat.le_trans HB.out.size (by simp)) (fun k hk => by cases hk; exact Nat.le_refl _))⟩
      case measure => simp [intOf]; omega
    · obtain rfl : n = k := by omega
      have hP : PartRel w l upto 0 (.slice none 0 0) (.slice none 0 0) wr := ⟨Kd.R_nil _ _ _ _ _, Kd.R_nil _ _ _ _ _, by have := HM.out; rw [List.take_of_length_le (Nat.le_of_eq HL.out)] at this; exact this, HB.out⟩
      have HP0 := Lib.hid hP
      clear hP HM HB
      obtain ⟨wo, hwo⟩ : ∃ wo : World, wo = wr := ⟨_, rfl⟩
      rw [← hwo] at HP0 ⊢
      clear hwo wr
      go_wp2
      go_loopw [4, 5, 26] (fun v u i wq => ∃ j : Nat, j ≤ n ∧ i = .int .i64 j ∧ PartRel w l upto j v u wq) (fun _ _ i _ => n - (intOf i).toNat)
      case atStart => exact ⟨0, Nat.zero_le _, rfl, HP0.out⟩
      case round =>
        clear HP0
        obtain ⟨j, hj, rfl, hP⟩ := hrel
        have HP1 := Lib.hid hP
        clear hP
        by_cases hlt : j < n
        · obtain ⟨ad, r, rfl, hr, p0, p1, p2, p3, p4⟩ := rec_nat (Kd.C_below HC.out HP1.out.2.2.2) j hlt
          have hP2 := HP1.out.alloc (.cells #[.int .i64 r.off, .string r.prod, .int .i64 r.seq, .string r.key, .string r.val] 41)
          obtain ⟨jl, hjl, hany⟩ := marks_later l j (by rw [HL.out]; exact hlt)
          rw [hr] at hjl hany
          have hrk : r.key.size ≤ maxLen := by
            have h1 : r ∈ l := by
              rw [← hr, List.getD_eq_getElem?_getD, List.getElem?_eq_getElem (by rw [HL.out]; exact hlt)]
              exact List.getElem_mem _
            have := HK.out r h1
            unfold maxLen; omega
          have lk0 : ∀ o, (Instr.lookup 189 (.map (some w.heap.size)) (.string r.key) false).run Tryd.prog (wr.alloc o) = .ok (.int .i64 jl) (wr.alloc o) := fun o => by
            have := (HP1.out.alloc o).2.2.1.look1 Tryd.underlying9 Tryd.underlying189 (zeroInt _) r.key hrk
            rw [hjl] at this
            exact this
          have hsup : sup l upto j = (!(r.key.toList.isEmpty) && decide ((j : Int) < (jl : Int)) && decide (r.off < upto)) := by
            unfold sup; rw [hr, hany]
          have hs1 : ((stayK l upto j).length + 1) * 64 ≤ 140737488355328 := by have := stayK_length l upto j; omega
          have hs2 : ((goneK l upto j).length + 1) * 8 ≤ 140737488355328 := by have := goneK_length l upto j; omega
          have hsz : (wr.alloc (.cells #[.int .i64 r.off, .string r.prod, .int .i64 r.seq, .string r.key, .string r.val] 41)).heap.size = wr.heap.size + 1 := by simp
          have HSZ := Lib.hid hsz
          have HP := Lib.hid hP2
          clear hsz
          have HS := Lib.hid hs1
          have HS2 := Lib.hid hs2
          have HR := Lib.hid hr
          clear hP2 hs1 hs2 hr hjl hany hrk
          by_cases e1 : r.key.toList.isEmpty = true
          · have hq : sup l upto j = false := by rw [hsup, e1]; rfl
            have HSUP := Lib.hid hq
            have e1' : r.key.toList = [] := List.isEmpty_iff.1 e1
            clear hsup hq lk0 e1
            go_wp2_with (at_builtin; refine Kd.R_append kRec (w0 := w) (W := wr.alloc (.cells #[.int .i64 r.off, .string r.prod, .int .i64 r.seq, .string r.key, .string r.val] 41)) 0 rfl (.tmp 53) (.tmp 55) 32 41 _ 64 rfl Tryd.underlying32 infoRec rfl (by decide) (by decide) u4 (stayK l upto j) r (Rec.cells r) (fun k => w.heap.size ≤ k) (fun _ => False) rfl (congrArg (fun q => Value.slice (some ⟨q, 0, none⟩) 1 1) HSZ.out.symm) rfl (fun _ h => h.elim) (fun k hk => Nat.le_trans HP.out.2.2.2.size hk) HP.out.1 ((HP.out.2.2.2).mono (Nat.zero_le _)) (Nat.zero_le _) HS.out ?_; intro v1 w1 hv1 _ hg1 _)
            go_roundw
            case rel => exact ⟨j + 1, by omega, by go_num, HP.out.stay HSUP.out (by rw [HR.out]; exact hv1) hg1⟩
            case measure => simp [intOf]; omega
          have e1' : r.key.toList.isEmpty = false := by simpa using e1
          clear e1
          by_cases e2 : (j : Int) < (jl : Int)
          · have d2 : decide ((j : Int) < (jl : Int)) = true := decide_eq_true e2
            by_cases e3 : r.off < upto
            · have d3 : decide (r.off < upto) = true := decide_eq_true e3
              have hq : sup l upto j = true := by rw [hsup, e1', d2, d3]; rfl
              have HSUP := Lib.hid hq
              clear hsup hq
              go_wp2_with (at_builtin; refine Kd.R_append (Kd.int .i64) (w0 := w) (W := wr.alloc (.cells #[.int .i64 r.off, .string r.prod, .int .i64 r.seq, .string r.key, .string r.val] 41)) 0 rfl (.tmp 48) (.tmp 51) 47 3 _ 8 rfl Tryd.underlying47 infoInt rfl (by decide) (by decide) u5 (goneK l upto j) r.off [.int .i64 r.off] (fun k => w.heap.size ≤ k) (fun _ => False) rfl (congrArg (fun q => Value.slice (some ⟨q, 0, none⟩) 1 1) HSZ.out.symm) rfl (fun _ h => h.elim) (fun k hk => Nat.le_trans HP.out.2.2.2.size hk) HP.out.2.1 ((HP.out.2.2.2).mono (Nat.zero_le _)) (Nat.zero_le _) HS2.out ?_; intro v1 w1 hv1 _ hg1 _)
              go_roundw
              case rel => exact ⟨j + 1, by omega, by go_num, HP.out.gone HSUP.out (by rw [HR.out]; exact hv1) hg1⟩
              case measure => simp [intOf]; omega
            · have d3 : decide (r.off < upto) = false := decide_eq_false e3
              have hq : sup l upto j = false := by rw [hsup, e1', d2, d3]; rfl
              have HSUP := Lib.hid hq
              clear hsup hq
              go_wp2_with (at_builtin; refine Kd.R_append kRec (w0 := w) (W := wr.alloc (.cells #[.int .i64 r.off, .string r.prod, .int .i64 r.seq, .string r.key, .string r.val] 41)) 0 rfl (.tmp 53) (.tmp 55) 32 41 _ 64 rfl Tryd.underlying32 infoRec rfl (by decide) (by decide) u4 (stayK l upto j) r (Rec.cells r) (fun k => w.heap.size ≤ k) (fun _ => False) rfl (congrArg (fun q => Value.slice (some ⟨q, 0, none⟩) 1 1) HSZ.out.symm) rfl (fun _ h => h.elim) (fun k hk => Nat.le_trans HP.out.2.2.2.size hk) HP.out.1 ((HP.out.2.2.2).mono (Nat.zero_le _)) (Nat.zero_le _) HS.out ?_; intro v1 w1 hv1 _ hg1 _)
              go_roundw
              case rel => exact ⟨j + 1, by omega, by go_num, HP.out.stay HSUP.out (by rw [HR.out]; exact hv1) hg1⟩
              case measure => simp [intOf]; omega
          · have d2 : decide ((j : Int) < (jl : Int)) = false := decide_eq_false e2
            have hq : sup l upto j = false := by rw [hsup, d2]; simp
            have HSUP := Lib.hid hq
            clear hsup hq
            go_wp2_with (at_builtin; refine Kd.R_append kRec (w0 := w) (W := wr.alloc (.cells #[.int .i64 r.off, .string r.prod, .int .i64 r.seq, .string r.key, .string r.val] 41)) 0 rfl (.tmp 53) (.tmp 55) 32 41 _ 64 rfl Tryd.underlying32 infoRec rfl (by decide) (by decide) u4 (stayK l upto j) r (Rec.cells r) (fun k => w.heap.size ≤ k) (fun _ => False) rfl (congrArg (fun q => Value.slice (some ⟨q, 0, none⟩) 1 1) HSZ.out.symm) rfl (fun _ h => h.elim) (fun k hk => Nat.le_trans HP.out.2.2.2.size hk) HP.out.1 ((HP.out.2.2.2).mono (Nat.zero_le _)) (Nat.zero_le _) HS.out ?_; intro v1 w1 hv1 _ hg1 _)
            go_roundw
            case rel => exact ⟨j + 1, by omega, by go_num, HP.out.stay HSUP.out (by rw [HR.out]; exact hv1) hg1⟩
            case measure => simp [intOf]; omega
        · obtain rfl : n = j := by omega
          have hp := HP1.out
          obtain ⟨A1, c1, rfl⟩ := Kd.R_slice hp.1
          obtain ⟨A2, c2, rfl⟩ := Kd.R_slice hp.2.1
          have HP := Lib.hid hp
          clear hp HP1
          go_wp2
          go_ret2
          refine ⟨_, _, rfl, ?_, ?_, HP.out.2.2.2⟩
          · unfold keepL; rw [HL.out]; exact HP.out.1
          · unfold goneL; rw [HL.out]; exact HP.out.2.1

def KeepPost (w : World) (l : List Rec) (upto : Int) (e : Ending) (w' : World) : Prop :=
  ∃ A n c, e = .returned (.slice A n c) ∧ RecsAt w' (fun k => w.heap.size ≤ k) (.slice A n c) (keepL l upto) ∧ Below w.heap.size w w'
set_option maxHeartbeats 1000000 in
theorem keep_any (w : World) (n c : Nat) (A : Option Addr) (l : List Rec) (hC : RecsIn w A n l) (hn : n ≤ 1000000) (hk : ∀ r ∈ l, r.key.size ≤ 1000000) (upto : Int) :
    Calls Tryd.prog 55 #[.slice A n c, .int .i64 upto] w (KeepPost w l upto) := by
  have hp := parted_any w n c A l hC hn hk upto
  have HP := Lib.hid hp
  clear hp hk hC
  go_enter Tryd.func55, Tryd.ntmps55
  go_wp2_with (go_at_call 83; refine HP.out.mono ?_; rintro e w1 ⟨v, u, rfl, hv, hu, hb⟩)
  go_ret
  obtain ⟨A2, c2, rfl⟩ := Kd.R_slice hv
  exact ⟨A2, _, c2, rfl, hv, hb⟩

set_option maxHeartbeats 1000000 in
theorem compact_any (w : World) (ok : Nat → Prop) (a : Nat) (T : Tp) (hT : TopicHere w ok a T) (hn : T.recs.length ≤ 1000000) (hk : ∀ r ∈ T.recs, r.key.size ≤ 1000000) (upto : Int) :
    Calls Tryd.prog 32 #[.pointer (some ⟨a, 0, none⟩), .int .i64 upto] w fun e w' => e = .returned (.int .i64 0) ∧ TopicHere w' (more ok w) a (T.compact upto) ∧ Turned ok w w' := by
  obtain ⟨bm, rv, hT⟩ := hT
  obtain ⟨A, c, rfl, hlc, hC⟩ := Kd.R_reads hT.recs
  have hp := keep_any w _ c A T.recs hC hn hk upto
  have c4 := hT.c4
  have HP := Lib.hid hp
  have HT := Lib.hid hT
  generalize T.recs.length = nl at *
  clear hp hk hC hT
  go_enter Tryd.func32, Tryd.ntmps32
  go_wp2_with (go_at_call 55; refine HP.out.mono ?_; rintro e w1 ⟨A2, n2, c2, rfl, hv, hb⟩; have k4 := (HT.out.below hb).c4; have kf := (HT.out.below hb).free 4)
  go_ret
  exact ⟨rfl, (((HT.out.below hb).mono (ok1 := more ok w) (fun k hk => .inl hk)).put_recs (Kd.R_mono hv (fun k hk => .inr hk))).here, (Turned.of_below hb).trans (Turned.of_cell (ok := ok) a 4 _ HT.out.oka) (fun _ h => .inl h)⟩
end Go.Proofs.YtdbnanniboiooaaDoor
