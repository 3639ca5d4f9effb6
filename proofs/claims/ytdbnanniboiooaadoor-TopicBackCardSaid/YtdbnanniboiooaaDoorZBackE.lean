/- TopicBack walked: it answers true. -/
import Derived.Test.YtdbnanniboiooaaDoorZBackD
import Derived.StillTailTactics
set_option linter.unusedVariables false
set_option linter.unusedSimpArgs false
namespace Go.Proofs.YtdbnanniboiooaaDoor
open Go.RowKit Go.Proofs.Carillon Go.Proofs.YtdbnanniboiooaaDoorW.PrintWords Go.Lib Go.Shelf
theorem bool_post {w w' : World} {b : Bool} (h : b = true) (hb : Below w.heap.size w w') : Ending.returned (.bool b) = .returned (.bool true) ∧ Below w.heap.size w w' := ⟨by rw [h], hb⟩
set_option maxRecDepth 100000 in
set_option maxHeartbeats 8000000 in
theorem back_any (w : World) (A : Option Addr) (n c : Nat) (l : List Dd) (low : Int) (hC : DdsIn w A n l) (hS : SizesAt w) (hl : inI64 low) :
    Calls Tryd.prog 7 #[.slice A n c, .int .i64 low] w fun e w' => e = .returned (.bool true) ∧ Below w.heap.size w w' := by
  have hlen := hC.1
  have hmx := hC.2.1
  have hEx := ex15_any w
  have hNew := fun W (hb : Below w.heap.size w W) => new_yes hb ⟨#[116]⟩ (by kernel_rfl)
  have hF0 : exT0.Fine 0 := ex_f0
  have HLEN := Lib.hid hlen
  have HC := Lib.hid hC
  have HS := Lib.hid hS
  have HEX := Lib.hid hEx
  have HNEW := Lib.hid hNew
  have HF0 := Lib.hid hF0
  obtain ⟨hl0, hl1⟩ := hl
  clear hlen hC hS hEx hNew hF0
  go_enter Tryd.func7, Tryd.ntmps7
  go_wp2_with (first
    | (go_at_call 15; (with_reducible refine HEX.out.mono ?_); rintro e w1 ⟨rfl, hb1⟩)
    | (go_at_call 22; (with_reducible refine (HNEW.out _ hb1).mono ?_); rintro e w2 ⟨a, rfl, h0⟩))
  have H0 := Lib.hid h0
  clear h0 hb1
  go_loopw [8] (fun i wr => ∃ k : Nat, k ≤ n ∧ k ≤ 60 ∧ i = .int .i64 k ∧ Own w wr a (exT0.pubs (l.take k))) (fun i _ => 60 - (intOf i).toNat)
  case atStart => exact ⟨0, Nat.zero_le _, Nat.zero_le _, rfl, H0.out⟩
  case round =>
    obtain ⟨k, hk, hk6, rfl, ho⟩ := hrel
    have HO := Lib.hid ho
    clear ho
    by_cases hlt : k < n ∧ k < 60
    · obtain ⟨hlt, hlt6⟩ := hlt
      obtain ⟨ad, d, rfl, hd, p0, p1, p2, p3, p4, p5, p6⟩ := dd_nat (Kd.C_below HC.out HO.out.below) k hlt
      have hP := pub_own (w := wr.drew) (HO.out.later (below_drew (Below.refl _ _))) d.prod d.seq d.key d.val k (by have := pubs_fine HF0.out l k (by rw [HLEN.out]; omega) (by omega); rwa [Nat.zero_add] at this) (by omega)
      have HD := Lib.hid hd
      have HP := Lib.hid hP
      clear hd hP
      have h60 : decide ((k : Int) < 60) = true := by simp; omega
      go_wp2
      go_still_tail 21, (by kernel_rfl)
      change wpList _ _ _ _ _ wr.drew
      generalize wr.drew = w2 at HP
      go_wp2_with (go_at_call 23; (with_reducible refine HP.out.mono ?_); rintro e w3 ⟨rfl, h3⟩)
      go_roundw
      case rel => exact ⟨k + 1, by omega, by omega, by go_num, by rw [pubs_succ _ _ _ (by rw [HLEN.out]; exact hlt), HD.out]; exact h3⟩
      case measure => simp [intOf]; omega
    · obtain ⟨m, hm⟩ : ∃ m, l.take k = m := ⟨_, rfl⟩
      have hF1 := pubs_fine HF0.out l k (by rw [HLEN.out]; omega) (by omega)
      rw [Nat.zero_add] at hF1
      have hF1 := hF1.mono hk6
      rw [hm] at hF1
      rw [hm] at HO
      obtain ⟨T1, hT1⟩ : ∃ T1, exT0.pubs m = T1 := ⟨_, rfl⟩
      rw [hT1] at hF1 HO
      have f0 := hF1.good.low0
      have f1 := hF1.good.low1
      have f2 := hF1.fin
      have hpk := fun W => pick_any low (T1.fin + 1) W hl0 hl1 (by omega) (by omega)
      have c2 := HO.out.c2
      obtain ⟨pk, hpk'⟩ : ∃ pk, pickI low (T1.fin + 1) = pk := ⟨_, rfl⟩
      rw [hpk'] at hpk
      obtain ⟨fi, hfi⟩ : ∃ fi, T1.fin = fi := ⟨_, rfl⟩
      rw [hfi] at hpk c2 f1 f2
      have hTr := trim_own HO.out pk 60 hF1 (by omega)
      have hF2 := fine_trim hF1 pk
      obtain ⟨T2, hT2⟩ : ∃ T2, (T1.trim pk).1 = T2 := ⟨_, rfl⟩
      rw [hT2] at hF2 hTr
      have hit := fine_items hF2 (by omega)
      have hDu := fun W (h : Own w W a T2) => dump_own h hF2.good HS.out (by omega)
      have hLo := fun W (h : Own w W a T2) => load_own h hF2.good HS.out (by omega)
      have hne := (dump_len hF2.good (by omega)).2
      obtain ⟨s, hs⟩ : ∃ s, strB T2.dump = s := ⟨_, rfl⟩
      have hse : s.toList.isEmpty = false := nonempty_toList (by rw [← hs, strB_size]; omega)
      rw [hs] at hDu hLo
      have HPK := Lib.hid hpk
      have HTR := Lib.hid hTr
      have HDU := Lib.hid hDu
      have HLO := Lib.hid hLo
      have HF2 := Lib.hid hF2
      have HSE := Lib.hid hse
      clear hpk hTr hDu hLo hF2 hF1 hse hs hne hit hT2 hpk' hm hT1 HO hfi
      have hkk : (decide ((k : Int) < (n : Int)) && decide ((k : Int) < 60)) = false := by
        simp; omega
      by_cases hlt2 : k < n
      all_goals
        go_wp2_with (first
          | (go_at_call 20; (with_reducible refine (end_any _ _ _ c2).mono ?_); rintro e w' ⟨rfl, rfl⟩)
          | (go_at_call 25; (with_reducible refine (HPK.out _).mono ?_); rintro e w' ⟨rfl, hw'⟩; rw [hw']; clear hw' w')
          | (go_at_call 24; (with_reducible refine HTR.out.mono ?_); rintro e w4 ⟨rfl, h4⟩)
          | (go_at_call 21; (with_reducible refine (HDU.out _ h4).mono ?_); rintro e w5 ⟨rfl, h5, _⟩)
          | (go_at_call 16; (with_reducible refine (HLO.out _ h5).mono ?_); rintro e w6 ⟨b, rfl, h6⟩))
        have H6 := Lib.hid h6
        clear h6 h4 h5 HTR HDU HLO HPK c2 hkk
        go_loopw [12] (fun i wq => ∃ j : Nat, j ≤ n ∧ j ≤ 60 ∧ i = .int .i64 j ∧ Own2 w wq a (T2.pubs0 (l.take j)) b (T2.pubs0 (l.take j))) (fun i _ => 60 - (intOf i).toNat)
        case atStart => exact ⟨0, Nat.zero_le _, Nat.zero_le _, rfl, H6.out⟩
        case round =>
          obtain ⟨j, hj, hj6, rfl, ho⟩ := hrel
          clear H6
          have hF3 := pubs0_fine HF2.out l j (by rw [HLEN.out]; omega) (by omega)
          by_cases hlt3 : j < n ∧ j < 60
          · obtain ⟨hlt3, hlt6⟩ := hlt3
            obtain ⟨ad, d, rfl, hd, p0, p1, p2, p3, p4, p5, p6⟩ := dd_nat (Kd.C_below HC.out ho.below) j hlt3
            have hO : Own2 w wr a (T2.pubs0 (l.take j)) b (T2.pubs0 (l.take j)) := ho
            have hX := pubs0_succ T2 l j (by rw [HLEN.out]; exact hlt3)
            rw [hd] at hX
            obtain ⟨X, hX0⟩ : ∃ X, T2.pubs0 (l.take j) = X := ⟨_, rfl⟩
            rw [hX0] at hO hX hF3
            obtain ⟨X1, hX1⟩ : ∃ X1, (X.pub d.prod d.seq ⟨#[]⟩ ⟨#[]⟩).1 = X1 := ⟨_, rfl⟩
            obtain ⟨r1, hr1⟩ : ∃ r1, (X.pub d.prod d.seq ⟨#[]⟩ ⟨#[]⟩).2.1 = r1 := ⟨_, rfl⟩
            obtain ⟨r2, hr2⟩ : ∃ r2, (X.pub d.prod d.seq ⟨#[]⟩ ⟨#[]⟩).2.2 = r2 := ⟨_, rfl⟩
            have hP := fun W (h : Own2 w W a X b X) => pub_own2 h d.prod d.seq ⟨#[]⟩ ⟨#[]⟩ (60 + j) hF3 (by omega)
            have hP2 := fun W (h : Own2 w W b X a X1) => pub_own2 h d.prod d.seq ⟨#[]⟩ ⟨#[]⟩ (60 + j) hF3 (by omega)
            simp only [hX1, hr1, hr2] at hP hP2
            rw [hX1] at hX
            have HX := Lib.hid hX
            have HP := Lib.hid hP
            have HO := Lib.hid hO
            have HP2 := Lib.hid hP2
            have h60 : decide ((j : Int) < 60) = true := by simp; omega
            have hdat : ∀ W, Below w.heap.size w W → W.cell? ⟨(ad.add (j * 7)).block, (ad.add (j * 7)).off + 1, none⟩ = some (.string d.prod) ∧ W.cell? ⟨(ad.add (j * 7)).block, (ad.add (j * 7)).off + 2, none⟩ = some (.int .i64 d.seq) := fun W h => by
              obtain ⟨ad', d', hA', hd', _, k1, k2, _⟩ := dd_nat (Kd.C_below HC.out h) j hlt3
              cases hA'
              rw [hd] at hd'
              subst hd'
              exact ⟨k1, k2⟩
            have HDAT := Lib.hid hdat
            clear hd hP hP2 hX hX0 hX1 hr1 hr2 hdat ho hF3 hO
            go_wp2
            have kk : (wr.drew.cell? ⟨(ad.add (j * 7)).block, (ad.add (j * 7)).off + 1, none⟩ = some (.string d.prod) ∧ wr.drew.cell? ⟨(ad.add (j * 7)).block, (ad.add (j * 7)).off + 2, none⟩ = some (.int .i64 d.seq)) := ⟨p1, p2⟩
            clear p0 p1 p2 p3 p4 p5 p6
            have hO1 := HO.out.later (below_drew (Below.refl wr.heap.size wr))
            go_region_held3 (fun w' => w'.cell? ⟨(ad.add (j * 7)).block, (ad.add (j * 7)).off + 1, none⟩ = some (.string d.prod) ∧ w'.cell? ⟨(ad.add (j * 7)).block, (ad.add (j * 7)).off + 2, none⟩ = some (.int .i64 d.seq)) (first | with_reducible exact kk2 | with_reducible exact kk | go_keep) ((go_at_call 23; (with_reducible refine (HP.out _ hO1).mono ?_); rintro e w8 ⟨rfl, h8⟩; have kk2 := HDAT.out _ h8.below))
            have kk : (w8.drew.cell? ⟨(ad.add (j * 7)).block, (ad.add (j * 7)).off + 1, none⟩ = some (.string d.prod) ∧ w8.drew.cell? ⟨(ad.add (j * 7)).block, (ad.add (j * 7)).off + 2, none⟩ = some (.int .i64 d.seq)) := kk2
            have h9 := (h8.later (w1 := w8.drew) (below_drew (Below.refl _ _))).swap
            have H9 := Lib.hid h9
            clear h8 h9 kk2
            go_wp2
            go_region_held3 (fun w' => w'.cell? ⟨(ad.add (j * 7)).block, (ad.add (j * 7)).off + 1, none⟩ = some (.string d.prod) ∧ w'.cell? ⟨(ad.add (j * 7)).block, (ad.add (j * 7)).off + 2, none⟩ = some (.int .i64 d.seq)) (first | with_reducible exact kk2 | with_reducible exact kk | go_keep) ((go_at_call 23; (with_reducible refine (HP2.out _ H9.out).mono ?_); rintro e w10 ⟨rfl, h10⟩; have kk2 := HDAT.out _ h10.below))
            go_wp2
            go_roundw
            case rel => exact ⟨j + 1, by omega, by omega, by go_num, by rw [HX.out]; exact h10.swap⟩
            case measure => simp [intOf]; omega
          · have hit := fine_items hF3 (by omega)
            obtain ⟨X, hX0⟩ : ∃ X, T2.pubs0 (l.take j) = X := ⟨_, rfl⟩
            rw [hX0] at ho hF3 hit
            have hDu := fun (a b : Nat) W (h : Own2 w W a X b X) => dump_own2 h hF3.good HS.out (by omega)
            have HDU := Lib.hid hDu
            have HO := Lib.hid ho
            have hse := HSE.out
            have hkk : (decide ((j : Int) < (n : Int)) && decide ((j : Int) < 60)) = false := by
              simp; omega
            clear hDu ho hF3 hit hX0
            by_cases hlt4 : j < n
            all_goals
              (go_wp2_with (go_at_call 21; (first | ((with_reducible refine (HDU.out _ _ _ HO.out.swap).mono ?_); rintro e w11 ⟨rfl, h11⟩) | ((with_reducible refine (HDU.out _ _ _ h11.swap).mono ?_); rintro e w12 ⟨rfl, h12⟩))))
            all_goals
              go_ret
              exact ⟨rfl, h12.below⟩
end Go.Proofs.YtdbnanniboiooaaDoor
