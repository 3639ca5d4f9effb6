/- topic.Dump: the whole. -/
import Derived.Test.YtdbnanniboiooaaDoorZLaw
import Derived.Test.YtdbnanniboiooaaDoorIter
set_option linter.unusedVariables false
set_option linter.unusedSimpArgs false
namespace Go.Proofs.YtdbnanniboiooaaDoor
open Go.RowKit Go.Proofs.Carillon Go.Proofs.YtdbnanniboiooaaDoorW.PrintWords Go.Lib Go.Shelf
/-- A row of another element type stays as it is while a row is written. -/
theorem R_turned {α β : Type} {d : Kd α} {d' : Kd β} {e e' : Nat} {w w1 : World} {b b' : Nat} {ok ok' : Nat → Prop} {v v' : Value} {xs : List α} {ys : List β} (h : Kd.R d e w b ok v xs) (h' : Kd.R d' e' w b' ok' v' ys) (he : ∀ q ∈ e :: d.E, q ≠ e')
    (ht : Turned (fun i => v'.ownBlock = some i) w w1) : Kd.R d e w1 b ok v xs := by
  refine Kd.R_mono (Kd.R_move (Kd.R_bound h) (fun k hk => ?_)) (fun k hk => hk.1)
  obtain ⟨_, _, hlt, q, hq, cells, hc⟩ := hk
  refine ht.block k hlt (fun ek => ?_)
  obtain ⟨inner, ho⟩ := Kd.R_own h'
  obtain ⟨cells', hc'⟩ := own_typed ho k ek
  rw [hc] at hc'
  injection hc' with hc'
  injection hc' with _ ht
  exact he q hq ht
theorem sorted_names (w : World) (bm : Nat) (m : List (ByteArray × (ByteArray × (Int × Int)))) (h : MapOf Tryd.prog 9 lastE w bm m) (hl : m.length ≤ 1000000) :
    Calls Tryd.prog 41 #[.func (.func 66) #[] #[.pointer (some ⟨w.heap.size, 0, none⟩)]] (w.alloc (.cells #[.map (some bm)] 80)) fun e w' => ∃ v, e = .returned v ∧ Kd.R Kd.string 9 w' 0 (fun k => w.heap.size ≤ k) v (m.map (·.1)) ∧ Below w.heap.size w w' := by
  have h1 := callsIn_wide.1 (Tryd.slices_Sorted_keys_41_42 bm m.length (dm lastE m) hR w h.own (by rw [dm_size]; unfold maxLen; omega) (by rw [dm_size]; omega))
  refine h1.mono ?_
  rintro e w' ⟨v, ss, rfl, hp, hown, _, hb⟩
  have hk : strKeys (dm lastE m) = m.map fun p => p.1.data.toList := by
    unfold strKeys dm; simp only [List.map_map]; exact List.map_congr_left (fun p _ => rfl)
  rw [hk] at hp
  rw [show ss.mergeSort (fun x y => decide (x ≤ y)) = _ from names_sorted h.rise hp] at hown
  have hlen : ss.length = (m.map (·.1)).length := by rw [hp.length_eq]; simp
  have he : (m.map fun p => p.1.data.toList).map encStr = encs Value.string (m.map (·.1)) := by
    unfold encs; rw [List.map_map, List.map_map]; exact List.map_congr_left (fun p _ => rfl)
  rw [he, hlen] at hown
  have hsz : (w.alloc (.cells #[.map (some bm)] 80)).heap.size = w.heap.size + 1 := by simp
  refine ⟨v, rfl, Kd.R_of_own (own_weaken hown (Nat.zero_le _)) (fun k hk => ?_), below_step (below_alloc (Below.refl _ _) _) hb⟩
  have := own_base hown k hk
  show w.heap.size ≤ k
  omega
theorem take_succ_getD {α : Type} (l : List α) (k : Nat) (z : α) (h : k < l.length) : l.take (k + 1) = l.take k ++ [l.getD k z] := by
  rw [List.take_succ_eq_append_getElem h, List.getD_eq_getElem?_getD, List.getElem?_eq_getElem h]; rfl
theorem flat_succ {α : Type} (l : List α) (k : Nat) (z : α) (f : α → List Itm) (h : k < l.length) (hd : List Itm) : hd ++ (l.take k).flatMap f ++ f (l.getD k z) = hd ++ (l.take (k + 1)).flatMap f := by
  rw [take_succ_getD l k z h, List.flatMap_append, List.append_assoc]; simp
theorem below_own {w w1 w2 : World} {d : Kd Itm} {e b : Nat} {v : Value} {xs : List Itm} (hb : Below w.heap.size w w1) (hv : Kd.R d e w1 b (fun k => w.heap.size ≤ k) v xs) (ht : Turned (fun i => v.ownBlock = some i) w1 w2) : Below w.heap.size w w2 :=
  ((Turned.of_below (ok := fun _ => False) hb).trans ht (fun i hi => .inr (hv.1 i hi))).below
def zProd : ByteArray × (Int × Int) := (⟨#[]⟩, 0, 0)
def DumpRel1 (w : World) (T : Tp) (nv : Value) (k : Nat) (v : Value) (wr : World) : Prop :=
  ItemsAt wr (fun k => w.heap.size ≤ k) v (headItems T ++ (T.prods.take k).flatMap prodItems) ∧ Kd.R Kd.string 9 wr 0 (fun k => w.heap.size ≤ k) nv (T.prods.map (·.1)) ∧ Below w.heap.size w wr
def DumpRel2 (w : World) (T : Tp) (k : Nat) (v : Value) (wr : World) : Prop :=
  ItemsAt wr (fun k => w.heap.size ≤ k) v (headItems T ++ T.prods.flatMap prodItems ++ (T.recs.take k).flatMap recItems) ∧ Below w.heap.size w wr
theorem mget_rises {α : Type} : ∀ {m : List (ByteArray × α)} {p : ByteArray × α}, rises m → p ∈ m → mget m p.1 = some p.2
  | [], _, _, h => by cases h
  | q :: m, p, hr, h => by
    obtain ⟨r1, r2⟩ := List.pairwise_cons.1 hr
    unfold mget
    rcases List.mem_cons.1 h with rfl | h
    · rw [List.find?_cons_of_pos (by simp)]; rfl
    · have hne : q.1 ≠ p.1 := fun e => lt_irrefl p.1 (by have := r1 p h; rwa [e] at this)
      rw [List.find?_cons_of_neg (by simpa using hne)]
      exact mget_rises r2 h
theorem getD_mem' {α : Type} (l : List α) (k : Nat) (z : α) (h : k < l.length) : l.getD k z ∈ l := by
  rw [List.getD_eq_getElem?_getD, List.getElem?_eq_getElem h]; exact List.getElem_mem _

set_option maxRecDepth 100000 in
set_option maxHeartbeats 8000000 in
theorem dump_any (w : World) (ok : Nat → Prop) (a bm : Nat) (rv : Value) (T : Tp) (hT : TopicAt w ok a bm rv T) (hg : T.Good) (hS : SizesAt w) (hn : T.items.length ≤ 1000) :
    Calls Tryd.prog 21 #[.pointer (some ⟨a, 0, none⟩)] w fun e w' => e = .returned (.string (strB T.dump)) ∧ Below w.heap.size w w' := by
  have hlen := items_len T
  have q0 := hg.low0
  have q1 := hg.low1
  have q2 := hg.fin1
  obtain ⟨A4, c4, rfl, hlc, hC4⟩ := Kd.R_reads hT.recs
  obtain ⟨np, hnp⟩ : ∃ np, T.prods.length = np := ⟨_, rfl⟩
  obtain ⟨nr, hnr⟩ : ∃ nr, T.recs.length = nr := ⟨_, rfl⟩
  rw [hnr] at hT hC4
  have np1 : np ≤ 400 := by omega
  have nr1 : nr ≤ 400 := by omega
  have HH := Lib.hid (show headItems T = [⟨4, 0, T.name⟩, ⟨3, T.low, ⟨#[]⟩⟩, ⟨3, T.fin, ⟨#[]⟩⟩, ⟨3, (T.prods.length : Nat), ⟨#[]⟩⟩] from rfl)
  have HC4 := Lib.hid hC4
  have HT := Lib.hid hT
  have HG := Lib.hid hg
  have HS := Lib.hid hS
  have HN := Lib.hid hn
  have HNP := Lib.hid hnp
  have HNR := Lib.hid hnr
  have hK := fun W => callsIn_wide.1 (Tryd.maps_Keys_42 (some bm) W)
  have hSo : ∀ W, Below w.heap.size w W → Calls Tryd.prog 41 #[.func (.func 66) #[] #[.pointer (some ⟨W.heap.size, 0, none⟩)]] (W.alloc (.cells #[.map (some bm)] 80)) (fun e w' => ∃ A c, e = .returned (.slice A np c) ∧ Kd.R Kd.string 9 w' 0 (fun k => W.heap.size ≤ k) (.slice A np c) (T.prods.map (·.1)) ∧ Below W.heap.size W w') := fun W hb => by
    have hnm : (withNames T.prods).map (·.1) = T.prods.map (·.1) := by unfold withNames; rw [List.map_map]; exact List.map_congr_left (fun _ _ => rfl)
    refine (sorted_names W bm _ ((hT.below hb).map) (by rw [withNames_length]; omega)).mono ?_
    rintro e w' ⟨v, rfl, h1, h2⟩
    rw [hnm] at h1
    obtain ⟨A, c, rfl⟩ := Kd.R_slice h1
    rw [List.length_map, hnp] at h1 ⊢
    exact ⟨A, c, rfl, h1, h2⟩
  have HK := Lib.hid hK
  have HSO := Lib.hid hSo
  clear hT hg hS hn hnp hnr hlen hC4 hK hSo hlc
  go_enter Tryd.func21, Tryd.ntmps21
  go_wp2
  refine dump_r1 w ok a bm _ T HT.out q0 (by omega) (by omega) q2 (by rw [HNP.out]; omega) _ _ _ _ _ _ _ _ _ _ _ _ _ _ _ _ _ _ _ _ _ _ _ _ _ _ _ _ _ _ _ _ _ _ _ _ _ _ _ _ _ _ _ _ _ _ _ _ _ _ _ _ _ _ _ _ _ _ _ _ _ _ _ _ _ _ _ _ _ _ _ _ _ _ _ _ _ _ _ _ _ _ _ _ _ _ _ _ _ _ _ _ _ _ _ _ _ _ _ ?_
  intro w1 v1 u11 u12 u13 u14 u15 u16 u17 u18 u19 u20 u21 u22 u23 u24 u25 u26 u27 u28 u29 u30 u31 u32 hv1 hb1
  have HV1 := Lib.hid hv1
  have HB1 := Lib.hid hb1
  have c3 := (HT.out.below hb1).c3
  clear hv1 hb1
  go_wp2_with (first | (go_at_call 42; refine (HK.out _).mono ?_; rintro e w2 ⟨rfl, hw2⟩; rw [hw2]; clear hw2 w2) | (go_at_call 41; refine (HSO.out w1 HB1.out).mono ?_; rintro e w2 ⟨A5, c5, rfl, hnv, hb2⟩))
  have hr0 : DumpRel1 w T (.slice A5 np c5) 0 v1 w2 := ⟨by
    rw [HH.out]; simpa using Kd.R_below HV1.out hb2, Kd.R_mono hnv (fun k hk => Nat.le_trans HB1.out.size hk), below_step HB1.out hb2⟩
  have HR0 := Lib.hid hr0
  clear hr0 hnv hb2 c3
  go_loopw [3, 40] (fun v i wr => ∃ k : Nat, k ≤ np ∧ i = .int .i64 k ∧ DumpRel1 w T (.slice A5 np c5) k v wr) (fun _ i _ => np - (intOf i).toNat)
  case atStart => exact ⟨0, Nat.zero_le _, rfl, HR0.out⟩
  case round =>
    obtain ⟨k, hk, rfl, hr⟩ := hrel
    have HR := Lib.hid hr
    clear hr
    by_cases hlt : k < np
    · obtain ⟨⟨nm, sq, of⟩, hp⟩ : ∃ p, T.prods.getD k zProd = p := ⟨_, rfl⟩
      have hmem : (nm, sq, of) ∈ T.prods := hp ▸ getD_mem' T.prods k zProd (by rw [HNP.out]; exact hlt)
      have hgp := HG.out.prods _ hmem
      obtain ⟨ad, rfl, hnm⟩ := Kd.at_string (Kd.R_reads' HR.out.2.1).2.2 k (by omega) (by rw [List.length_map, HNP.out]; omega)
      have hrd : rdOf ByteArray.empty (T.prods.map (·.1)) k = nm := by
        unfold rdOf
        rw [Int.toNat_natCast, List.getD_eq_getElem?_getD, List.getElem?_map]
        rw [List.getD_eq_getElem?_getD] at hp
        rw [List.getElem?_eq_getElem (by rw [HNP.out]; exact hlt)] at hp ⊢
        simp only [Option.getD_some, Option.map_some] at hp ⊢
        rw [hp]
      rw [hrd, Int.toNat_natCast] at hnm
      have c3 := (HT.out.below HR.out.2.2).c3
      have hlook : (Instr.lookup 80 (.map (some bm)) (.string nm) false).run Tryd.prog wr = .ok (.agg #[.int .i64 sq, .int .i64 of, .string nm]) wr := by
        have h1 := (HT.out.below HR.out.2.2).map.look1 Tryd.underlying9 Tryd.underlying80 (zeroLast wr) nm (by have := word_size hgp.1; simp only at this; unfold maxLen; omega)
        rw [withNames_get, mget_rises HG.out.prise hmem] at h1
        exact h1
      have HP := Lib.hid hp
      have HGP := Lib.hid hgp
      clear hp hgp hmem hrd
      go_wp2
      have hB := heap_alloc_new wr (.cells #[.int .i64 sq, .int .i64 of, .string nm] 93)
      have hbr := below_alloc HR.out.2.2 (.cells #[.int .i64 sq, .int .i64 of, .string nm] 93)
      have hv := Kd.R_alloc HR.out.1 (.cells #[.int .i64 sq, .int .i64 of, .string nm] 93)
      have hnv := Kd.R_alloc HR.out.2.1 (.cells #[.int .i64 sq, .int .i64 of, .string nm] 93)
      have h3 := HGP.out
      have hl1 : (headItems T ++ (T.prods.take k).flatMap prodItems).length ≤ 100000 := by
        rw [List.length_append, prods_len, List.length_take]
        have : (headItems T).length = 4 := rfl
        omega
      have HV := Lib.hid hv
      have HNV := Lib.hid hnv
      have HBR := Lib.hid hbr
      have HBB := Lib.hid hB
      clear hv hnv hbr hB hlook hnm c3
      refine dump_r6 _ (fun i => w.heap.size ≤ i) wr.heap.size _ _ nm sq of HBB.out HV.out (fun i hi => Nat.le_trans HBR.out.size hi) hl1 h3.2.1 h3.2.2.1 h3.2.2.2.1 (by have h5 : of < T.fin := h3.2.2.2.2; omega) _ _ _ _ _ _ _ _ _ _ _ _ _ _ _ _ _ _ _ _ _ _ _ _ _ _ _ _ _ _ _ _ _ _ _ _ _ _ _ _ _ _ _ _ _ _ _ _ _ _ _ _ _ _ _ _ _ _ _ _ _ _ _ _ _ _ _ _ _ _ _ _ _ _ _ _ _ _ _ _ _ _ _ _ _ _ _ _ _ _ _ _ _ _ _ _ _ _ ?_
      intro w' v' u50 u51 u52 u53 u54 u55 u56 u57 u58 u59 u60 u61 u62 u63 hv' ht'
      have hr1 : DumpRel1 w T (.slice (some ad) np c5) (k + 1) v' w' := by
        refine ⟨?_, R_turned HNV.out HV.out (by intro q hq; simp only [Kd.string, Kd.scalar, List.mem_cons, List.not_mem_nil, or_false] at hq; subst hq; decide) ht', below_own HBR.out HV.out ht'⟩
        rw [← flat_succ T.prods k zProd prodItems (by rw [HNP.out]; exact hlt) (headItems T), HP.out]
        exact hv'
      have HR1 := Lib.hid hr1
      clear hr1 hv' ht' h3
      go_wp2
      refine ⟨⟨k + 1, by omega, by go_num, HR1.out⟩, ?_⟩
      simp [intOf]; omega
    · obtain rfl : k = np := by omega
      have c4' := (HT.out.below HR.out.2.2).c4
      have hr0 : DumpRel2 w T 0 u3 wr := ⟨by
        have := HR.out.1
        rw [List.take_of_length_le (by rw [HNP.out]; omega)] at this
        simpa using this, HR.out.2.2⟩
      have HR2 := Lib.hid hr0
      have hnr := HNR.out
      clear hr0
      go_wp2
      go_loopw [3, 70] (fun v i wq => ∃ k : Nat, k ≤ nr ∧ i = .int .i64 k ∧ DumpRel2 w T k v wq) (fun _ i _ => nr - (intOf i).toNat)
      case atStart => exact ⟨0, Nat.zero_le _, rfl, HR2.out⟩
      case round =>
        clear HR2 HR c4'
        obtain ⟨j, hj, rfl, hr⟩ := hrel
        have HQ1 := Lib.hid hr
        clear hr
        by_cases hlt : j < nr
        · obtain ⟨ad4, r, rfl, hr, p0, p1, p2, p3, p4⟩ := rec_nat (Kd.C_below HC4.out HQ1.out.2) j hlt
          have hmem : r ∈ T.recs := hr ▸ getD_mem' T.recs j zRec (by rw [HNR.out]; exact hlt)
          have hsz := right_sizes (HG.out.recs r hmem).1
          have HRR := Lib.hid hr
          have HSZ := Lib.hid hsz
          clear hr hmem hsz
          go_wp2
          have hB := heap_alloc_new wr (.cells #[.int .i64 r.off, .string r.prod, .int .i64 r.seq, .string r.key, .string r.val] 41)
          have hbr := below_alloc HQ1.out.2 (.cells #[.int .i64 r.off, .string r.prod, .int .i64 r.seq, .string r.key, .string r.val] 41)
          have hv := Kd.R_alloc HQ1.out.1 (.cells #[.int .i64 r.off, .string r.prod, .int .i64 r.seq, .string r.key, .string r.val] 41)
          have hl1 : (headItems T ++ T.prods.flatMap prodItems ++ (T.recs.take j).flatMap recItems).length ≤ 100000 := by
            rw [List.length_append, List.length_append, prods_len, recs_len, List.length_take, HNP.out]
            have : (headItems T).length = 4 := rfl
            omega
          have h3 := HSZ.out
          have HV := Lib.hid hv
          have HBR := Lib.hid hbr
          have HBB := Lib.hid hB
          clear hv hbr hB p0 p1 p2 p3 p4
          refine dump_r11 _ (fun i => w.heap.size ≤ i) wr.heap.size _ _ r HBB.out HV.out (fun i hi => Nat.le_trans HBR.out.size hi) hl1 h3.1 h3.2.2.1 h3.2.1 h3.2.2.2.1 _ _ _ _ _ _ _ _ _ _ _ _ _ _ _ _ _ _ _ _ _ _ _ _ _ _ _ _ _ _ _ _ _ _ _ _ _ _ _ _ _ _ _ _ _ _ _ _ _ _ _ _ _ _ _ _ _ _ _ _ _ _ _ _ _ _ _ _ _ _ _ _ _ _ _ _ _ _ _ _ _ _ _ _ _ _ _ _ _ _ _ _ _ _ _ _ _ _ ?_
          intro w' v' u74 u75 u76 u77 u78 u79 u80 u81 u82 u83 u84 u85 u86 u87 u88 u89 u90 u91 hv' ht'
          have hr1 : DumpRel2 w T (j + 1) v' w' := by
            refine ⟨?_, below_own HBR.out HV.out ht'⟩
            rw [← flat_succ T.recs j zRec recItems (by rw [HNR.out]; exact hlt) (headItems T ++ T.prods.flatMap prodItems), HRR.out]
            exact hv'
          have HR1 := Lib.hid hr1
          clear hr1 hv' ht' h3
          go_wp2
          refine ⟨⟨j + 1, by omega, by go_num, HR1.out⟩, ?_⟩
          simp [intOf]; omega
        · obtain rfl : j = nr := by omega
          have hits := HQ1.out.1
          rw [List.take_of_length_le (by rw [HNR.out]; omega)] at hits
          have hbw := HQ1.out.2
          obtain ⟨A6, c6, rfl, hle6, hC6⟩ := Kd.R_reads hits
          have hen := enc_any wr _ c6 A6 T.items hC6 (HS.out.below hbw) HN.out (fun x hx => by
            obtain ⟨c, hc⟩ := items_fit HG.out (by rw [HNP.out]; omega) x hx
            rcases hc with ⟨_, h1, h2, h3⟩ | ⟨_, h1, h2, h3, h4⟩
            · exact ⟨by omega, by omega, by omega⟩
            · exact ⟨h2, h3, by rw [h4]; decide⟩)
          have hle1 := HN.out
          have HEN := Lib.hid hen
          have HBW := Lib.hid hbw
          have hfold : headItems T ++ T.prods.flatMap prodItems ++ T.recs.flatMap recItems = T.items := rfl
          clear hen hbw hits hC6 HQ1
          rw [hfold]
          clear hfold
          go_wp2_with (go_at_call 43; refine HEN.out.mono ?_; rintro e w' ⟨rfl, hb'⟩)
          go_ret
          exact ⟨rfl, below_step HBW.out hb'⟩
end Go.Proofs.YtdbnanniboiooaaDoor
