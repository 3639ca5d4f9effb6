/-
  topic.items: the items of a topic's bytes.
  topic.Load: the head's test.
  topic.Load: the topic is made.
  topic.Load: a producer's test.
  topic.Load: a producer is put down.
  topic.Load: a record's test.
  topic.Load: a record is put down.
-/
import Derived.Test.YtdbnanniboiooaaDoorZDec
import Derived.BigRegion
import Derived.BigQuiet
import Derived.IntWalk
import Derived.Deep.RegionHeld3
import Derived.StillTailTactics
set_option linter.unusedVariables false
set_option linter.unusedSimpArgs false
namespace Go.Proofs.Carillon
def hN (n : Nat) : List UInt8 := [116, 108, 108, 108] ++ Lib.repeatL [116, 108, 108] n
def tT : List UInt8 := [108, 116, 108, 116, 116]
/-- What the bytes are by the shape of n producers. -/
def tryN (s : List UInt8) (n : Nat) : List Itm × Int := decGo tT 1000 (hN n) s []
def goodN (s : List UInt8) (n : Nat) : Prop := (tryN s n).2 = 0 ∧ ((tryN s n).1.getD 3 zItm).n = n
theorem repeatL_letters (n : Nat) : ∀ c ∈ Lib.repeatL [116, 108, 108] n, isLetter c := by
  induction n with
  | zero => intro c h; simp [Lib.repeatL] at h
  | succ n ih =>
    intro c h
    rw [Lib.repeatL, List.mem_append] at h
    rcases h with h | h
    · simp at h; rcases h with rfl | rfl <;> unfold isLetter <;> decide
    · exact ih c h
theorem hN_letters (n : Nat) : ∀ c ∈ hN n, isLetter c := by
  intro c h
  rw [hN, List.mem_append] at h
  rcases h with h | h
  · simp at h; rcases h with rfl | rfl <;> unfold isLetter <;> decide
  · exact repeatL_letters n c h
theorem tT_letters : ∀ c ∈ tT, isLetter c := by
  unfold tT isLetter; decide
theorem hN_length (n : Nat) : (hN n).length = 4 + 3 * n := by
  rw [hN, List.length_append, Lib.repeatL_length]; simp; omega
theorem next_letter {t cs : List UInt8} (ht : t ≠ []) : ∃ c cs', (if cs = [] then t else cs) = c :: cs' := by
  by_cases hz : cs = []
  · rw [if_pos hz]
    cases ht' : t with
    | nil => exact absurd ht' ht
    | cons a b => exact ⟨a, b, rfl⟩
  · rw [if_neg hz]
    cases ht' : cs with
    | nil => exact absurd ht' hz
    | cons a b => exact ⟨a, b, rfl⟩
/-- What is made begins with what was there, and has the letters' items, too. -/
theorem decGo_begins {t : List UInt8} (ht : t ≠ []) : ∀ (n : Nat) (cs rest : List UInt8) (out : List Itm), (decGo t n cs rest out).2 = 0 → out <+: (decGo t n cs rest out).1 ∧ out.length + cs.length ≤ (decGo t n cs rest out).1.length := by
  intro n
  induction n with
  | zero =>
    intro cs rest out h
    by_cases hd : cs = [] ∧ rest = []
    · rw [hd.1, hd.2, decGo_done]; exact ⟨List.prefix_refl _, by simp⟩
    · obtain ⟨c, cs', hc⟩ := next_letter (cs := cs) ht
      rw [decGo_step t 0 cs rest out c cs' hd hc] at h
      simp at h
  | succ n ih =>
    intro cs rest out h
    by_cases hd : cs = [] ∧ rest = []
    · rw [hd.1, hd.2, decGo_done]; exact ⟨List.prefix_refl _, by simp⟩
    · obtain ⟨c, cs', hc⟩ := next_letter (cs := cs) ht
      rw [decGo_step t (n + 1) cs rest out c cs' hd hc] at h ⊢
      simp only at h ⊢
      by_cases he : (readItem c rest).2.2 = 0
      · rw [if_pos he] at h ⊢
        obtain ⟨h1, h2⟩ := ih cs' _ _ h
        rw [List.length_append, List.length_singleton] at h2
        refine ⟨(List.prefix_append _ _).trans h1, ?_⟩
        by_cases hz : cs = []
        · rw [hz, List.length_nil]; omega
        · rw [if_neg hz] at hc; rw [hc, List.length_cons]; omega
      · rw [if_neg he] at h
        exact absurd h he
theorem tryN_length {s : List UInt8} {n : Nat} (h : (tryN s n).2 = 0) : 4 + 3 * n ≤ (tryN s n).1.length := by
  have := (decGo_begins (t := tT) (by decide) 1000 (hN n) s [] h).2
  rw [hN_length, List.length_nil, Nat.zero_add] at this
  exact this
end Go.Proofs.Carillon
namespace Go.Proofs.YtdbnanniboiooaaDoor
open Go.RowKit Go.Proofs.Carillon Go.Proofs.YtdbnanniboiooaaDoorW.PrintWords Go.Lib Go.Shelf

def ItemsPost (w : World) (s : List UInt8) (e : Ending) (w' : World) : Prop :=
  Below w.heap.size w w' ∧ ((∃ n v, n ≤ 333 ∧ goodN s n ∧ (∀ m, m < n → ¬ goodN s m) ∧ e = .returned (.tuple #[v, .int .i64 (n : Nat), .bool true]) ∧ ItemsAt w' (fun i => w.heap.size ≤ i) v (tryN s n).1) ∨
    ((∀ m, m ≤ 333 → ¬ goodN s m) ∧ e = .returned (.tuple #[.slice none 0 0, .int .i64 0, .bool false])))

theorem shape_eq (n : Nat) : (⟨#[116, 108, 108, 108]⟩ : ByteArray) ++ (⟨(Lib.repeatL (⟨#[116, 108, 108]⟩ : ByteArray).data.toList n).toArray⟩ : ByteArray) ++ (⟨#[42, 108, 116, 108, 116, 116]⟩ : ByteArray) = strB (hN n ++ 42 :: tT) := by
  unfold strB hN tT
  apply ByteArray.ext
  simp

set_option maxRecDepth 100000 in
set_option maxHeartbeats 4000000 in
theorem items_any (w : World) (s : List UInt8) (hS : SizesAt w) (hs : s.length ≤ 1000000000) :
    Calls Tryd.prog 33 #[.string (strB s)] w (ItemsPost w s) := by
  have hRep := fun (n : Nat) (hn : n ≤ 333) W => Tryd.strings_Repeat ⟨#[116, 108, 108]⟩ n W (by omega) (by have : (⟨#[116, 108, 108]⟩ : ByteArray).size = 3 := rfl; rw [this]; omega)
  have hD := fun (n : Nat) (hn : n ≤ 333) W (hb : Below w.heap.size w W) => dec_star W (hN n) tT s (hS.below hb) (by rw [hN_length]; simp [tT]; omega) (hN_letters n) tT_letters (by decide) hs
  have hz : ∀ n, n ≤ 333 → ((⟨(Lib.repeatL (⟨#[116, 108, 108]⟩ : ByteArray).data.toList n).toArray⟩ : ByteArray).size : Int) = 3 * n := fun n _ => by
    show (((Lib.repeatL [116, 108, 108] n).toArray.size : Nat) : Int) = 3 * n
    rw [List.size_toArray, Lib.repeatL_length]; simp; omega
  have hsh := fun n => shape_eq n
  obtain ⟨rep, hrep⟩ : ∃ rep : Nat → ByteArray, (fun n => (⟨(Lib.repeatL (⟨#[116, 108, 108]⟩ : ByteArray).data.toList n).toArray⟩ : ByteArray)) = rep := ⟨_, rfl⟩
  have hrep' : ∀ n, (⟨(Lib.repeatL (⟨#[116, 108, 108]⟩ : ByteArray).data.toList n).toArray⟩ : ByteArray) = rep n := fun n => congrFun hrep n
  simp only [hrep'] at hRep hz hsh
  obtain ⟨S, hS'⟩ : ∃ S, strB s = S := ⟨_, rfl⟩
  rw [hS'] at hD ⊢
  have HRep := Lib.hid hRep
  have HD := Lib.hid hD
  have HZ := Lib.hid hz
  have HSH := Lib.hid hsh
  clear hRep hD hz hsh hrep hrep' hS hs hS'
  go_enter Tryd.func33, Tryd.ntmps33
  go_wp2
  go_loopw [5] (fun i wr => ∃ n : Nat, n ≤ 334 ∧ i = .int .i64 n ∧ (∀ m, m < n → ¬ goodN s m) ∧ Below w.heap.size w wr) (fun i _ => 334 - (intOf i).toNat)
  case atStart => exact ⟨0, Nat.zero_le _, rfl, fun m h => absurd h (Nat.not_lt_zero m), Below.refl _ _⟩
  case round =>
    obtain ⟨n, hn, rfl, hno, hbr⟩ := hrel
    have HNO := Lib.hid hno
    have HBR := Lib.hid hbr
    clear hno hbr
    by_cases hlt : n ≤ 333
    · have hbg := tryN_length (s := s) (n := n)
      obtain ⟨R, hR⟩ : ∃ R, tryN s n = R := ⟨_, rfl⟩
      have hDn := fun W hb => HD.out n hlt W hb
      have hg : goodN s n ↔ (R.2 = 0 ∧ (R.1.getD 3 zItm).n = n) := by unfold goodN; rw [hR]
      rw [show decGo tT 1000 (hN n) s [] = R from hR] at hDn
      rw [hR] at hbg
      have hz := HZ.out n hlt
      have hsh := HSH.out n
      have hrp := fun W => HRep.out n hlt W
      obtain ⟨r, hr⟩ : ∃ r, rep n = r := ⟨_, rfl⟩
      rw [hr] at hz hsh hrp
      have ha1 : ∀ W, _ := fun W => run_string_add (P := Tryd.prog) W ⟨#[116, 108, 108, 108]⟩ r (by decide) (by omega)
      obtain ⟨y, hy⟩ : ∃ y, (⟨#[116, 108, 108, 108]⟩ : ByteArray) ++ r = y := ⟨_, rfl⟩
      have hysz : (y.size : Int) ≤ 8388608 := by rw [← hy]; simp [ByteArray.size_append]; have : (⟨#[116, 108, 108, 108]⟩ : ByteArray).size = 4 := rfl; omega
      have ha2 : ∀ W, _ := fun W => run_string_add (P := Tryd.prog) W y ⟨#[42, 108, 116, 108, 116, 116]⟩ hysz (by decide)
      rw [hy] at hsh ha1
      rw [hsh] at ha2
      have HDN := Lib.hid hDn
      have HRP := Lib.hid hrp
      clear hDn hrp hsh hr hy
      by_cases h2 : R.2 = 0
      · have hlen := hbg h2
        by_cases h3 : (R.1.getD 3 zItm).n = n
        · have HGD := Lib.hid (hg.2 ⟨h2, h3⟩)
          go_wp2_with (first | (go_at_call 57; refine (HRP.out _).mono ?_; rintro e w1 ⟨rfl, hb1⟩) | (go_at_call 56; refine (HDN.out _ (below_step HBR.out hb1)).mono ?_; rintro e w3 ⟨v, rfl, hits, hb3⟩; obtain ⟨A, c, rfl, hle, hC⟩ := Kd.R_reads hits; have hb2 := below_step (below_step HBR.out hb1) hb3; have hi2 : ItemsAt w3 (fun i => w.heap.size ≤ i) (.slice A R.1.length c) R.1 := Kd.R_mono hits (fun i hi => Nat.le_trans (below_step HBR.out hb1).size hi); have HB2 := Lib.hid hb2; have HI2 := Lib.hid hi2; obtain ⟨ad, q, rfl, hq, k0, k1, k2⟩ := item_nat hC 3 (by omega); rw [hq] at h3; have k3 : w3.cell? ⟨ad.block, ad.off + 9 + 1, none⟩ = some (.int .u64 n) := h3 ▸ k1; clear hq k0 k1 k2; clear hb2 hi2 hb1 hb3))
          go_ret3
          exact ⟨HB2.out, .inl ⟨n, _, hlt, HGD.out, HNO.out, rfl, hR ▸ HI2.out⟩⟩
        · have HNG := Lib.hid (fun g => h3 (hg.1 g).2 : ¬ goodN s n)
          go_wp2_with (first | (go_at_call 57; refine (HRP.out _).mono ?_; rintro e w1 ⟨rfl, hb1⟩) | (go_at_call 56; refine (HDN.out _ (below_step HBR.out hb1)).mono ?_; rintro e w3 ⟨v, rfl, hits, hb3⟩; obtain ⟨A, c, rfl, hle, hC⟩ := Kd.R_reads hits; have hb2 := below_step (below_step HBR.out hb1) hb3; have hi2 : ItemsAt w3 (fun i => w.heap.size ≤ i) (.slice A R.1.length c) R.1 := Kd.R_mono hits (fun i hi => Nat.le_trans (below_step HBR.out hb1).size hi); have HB2 := Lib.hid hb2; have HI2 := Lib.hid hi2; obtain ⟨ad, q, rfl, hq, k0, k1, k2⟩ := item_nat hC 3 (by omega); rw [hq] at h3; have k3 : w3.cell? ⟨ad.block, ad.off + 9 + 1, none⟩ = some (.int .u64 q.n) := k1; clear hq k0 k1 k2; clear hb2 hi2 hb1 hb3))
          go_roundw
          case rel => exact ⟨n + 1, by omega, by go_num, fun m hm => by
            by_cases e : m = n
            · subst e; exact HNG.out
            · exact HNO.out m (by omega), HB2.out⟩
          case measure => simp [intOf]; omega
      · go_wp2_with (first | (go_at_call 57; refine (HRP.out _).mono ?_; rintro e w1 ⟨rfl, hb1⟩) | (go_at_call 56; refine (HDN.out _ (below_step HBR.out hb1)).mono ?_; rintro e w3 ⟨v, rfl, hits, hb3⟩; obtain ⟨A, c, rfl, hle, hC⟩ := Kd.R_reads hits; have hb2 := below_step (below_step HBR.out hb1) hb3; have hi2 : ItemsAt w3 (fun i => w.heap.size ≤ i) (.slice A R.1.length c) R.1 := Kd.R_mono hits (fun i hi => Nat.le_trans (below_step HBR.out hb1).size hi); have HB2 := Lib.hid hb2; have HI2 := Lib.hid hi2; clear hb2 hi2 hb1 hb3))
        go_roundw
        case rel => exact ⟨n + 1, by omega, by go_num, fun m hm => by
          by_cases e : m = n
          · subst e; exact fun g => absurd (hg.1 g).1 h2
          · exact HNO.out m (by omega), HB2.out⟩
        case measure => simp [intOf]; omega
    · obtain rfl : n = 334 := by omega
      go_wp2
      go_ret3
      exact ⟨HBR.out, .inr ⟨fun m hm => HNO.out m (by omega), rfl⟩⟩
end Go.Proofs.YtdbnanniboiooaaDoor
namespace Go.Proofs.YtdbnanniboiooaaDoor
open Go.RowKit Go.Proofs.Carillon Go.Proofs.YtdbnanniboiooaaDoorW.PrintWords Go.Lib Go.Shelf
def seqA : Code → Code | .seq a _ => a | c => c
theorem below_drawn {w : World} : Below w.heap.size w { w with drawn := w.drawn + 1 } := ⟨rfl, rfl, rfl, Nat.le_refl _, fun _ _ => rfl⟩
/-- A region that draws its order, of operations that read and of calls that leave what there was: one walk, in the order of the text, over any world in which what there was still is. -/
theorem wp_region_below {P : Program} {id : Nat} {Q : Exit → Act → World → Prop} {a : Act} {w : World} {l : List Oper} (hm : P.follows .mixedOrders = true) (hB : Region.lexB .any l.toArray = true)
    (h : ∀ (X : Type) (_ : Nonempty X) (G : X → World), (∀ x, Below w.heap.size w (G x)) → (∀ x w'', Below (G x).heap.size (G x) w'' → ∃ y, w'' = G y) →
      wpQuiet P l.toArray (fun w' => ∃ x, w' = G x) (fun a' => ∀ w', (∃ x, w' = G x) → Q .normal a' w') l a) : (Code.region id l.toArray true).wp P Q a w := by
  have h1 := h {w' : World // Below w.heap.size w w'} ⟨⟨w, Below.refl _ _⟩⟩ Subtype.val (fun x => x.2) (fun x w'' hb => ⟨⟨w'', below_step x.2 hb⟩, rfl⟩)
  exact wp_region_quiet (C := fun w' => ∃ x : {w' : World // Below w.heap.size w w'}, w' = x.val) hm hB ⟨⟨_, below_drawn⟩, rfl⟩ (by simpa using h1)
def L2Wp (Q : Exit → Act → World → Prop) (a : Act) (w : World) : Prop := Code.wp Tryd.prog (seqA (seqA (seqB (seqB (Tryd.f16.body.getD .skip))))) Q a w

set_option maxRecDepth 100000 in
set_option maxHeartbeats 4000000 in
theorem load_r2_no (w : World) (Q : Exit → Act → World → Prop) (u0 u1 u2 u3 u4 u5 u7 u8 u9 u10 u11 u12 u13 u14 u15 u16 u17 u18 u19 u20 u21 u22 u23 u24 u25 u26 u27 u28 u29 u30 u31 u32 u33 u34 u35 u36 u37 u38 u39 u40 u41 u42 u43 u44 u45 u46 u47 u48 u49 u50 u51 u52 u53 u54 u55 u56 u57 u58 u59 u60 u61 u62 u63 u64 u65 u66 u67 u68 u69 u70 u71 u72 u73 u74 u75 u76 u77 u78 u79 u80 u81 u82 u83 u84 u85 u86 u87 u88 u89 u90 u91 u92 u93 u94 u95 u96 u97 u98 u99 u100 u101 u102 u103 u104 u105 u106 u107 u108 u109 u110 u111 u112 u113 u114 u115 u116 u117 u118 u119 u120 u121 u122 u123 u124 u125 u126 u127 u128 u129 u130 u131 u132 u133 u134 u135 u136 u137 u138 u139 u140 u141 u142 u143 u144 u145 u146 u147 u148 u149 u150 u151 u152 u153 u154 u155 u156 u157 u158 u159 u160 u161 u162 u163 u164 u165 u166 u167 u168 u169 u170 u171 u172 u173 u174 u175 u176 u177 u178 u179 u180 u181 u182 u183 u184 u185 u186 u187 u188 u189 u190 u191 u192 u193 u194 u195 u196 : Value)
    (hQ : ∀ n (u17 u18 u19 u20 u21 u22 u23 u24 u25 u26 u27 u28 u29 u30 u31 u32 u33 u34 u35 u36 u37 u38 u39 u40 u41 u42 u43 : Value), Q .normal ⟨#[u0, u1, u2, u3, u4, u5, .bool false, u7, u8, u9, u10, u11, u12, u13, u14, u15, u16, u17, u18, u19, u20, u21, u22, u23, u24, u25, u26, u27, u28, u29, u30, u31, u32, u33, u34, u35, u36, u37, u38, u39, u40, u41, u42, u43, .bool true, u45, u46, u47, u48, u49, u50, u51, u52, u53, u54, u55, u56, u57, u58, u59, u60, u61, u62, u63, u64, u65, u66, u67, u68, u69, u70, u71, u72, u73, u74, u75, u76, u77, u78, u79, u80, u81, u82, u83, u84, u85, u86, u87, u88, u89, u90, u91, u92, u93, u94, u95, u96, u97, u98, u99, u100, u101, u102, u103, u104, u105, u106, u107, u108, u109, u110, u111, u112, u113, u114, u115, u116, u117, u118, u119, u120, u121, u122, u123, u124, u125, u126, u127, u128, u129, u130, u131, u132, u133, u134, u135, u136, u137, u138, u139, u140, u141, u142, u143, u144, u145, u146, u147, u148, u149, u150, u151, u152, u153, u154, u155, u156, u157, u158, u159, u160, u161, u162, u163, u164, u165, u166, u167, u168, u169, u170, u171, u172, u173, u174, u175, u176, u177, u178, u179, u180, u181, u182, u183, u184, u185, u186, u187, u188, u189, u190, u191, u192, u193, u194, u195, u196], []⟩ (w.drewN n)) :
    L2Wp Q ⟨#[u0, u1, u2, u3, u4, u5, .bool false, u7, u8, u9, u10, u11, u12, u13, u14, u15, u16, u17, u18, u19, u20, u21, u22, u23, u24, u25, u26, u27, u28, u29, u30, u31, u32, u33, u34, u35, u36, u37, u38, u39, u40, u41, u42, u43, u44, u45, u46, u47, u48, u49, u50, u51, u52, u53, u54, u55, u56, u57, u58, u59, u60, u61, u62, u63, u64, u65, u66, u67, u68, u69, u70, u71, u72, u73, u74, u75, u76, u77, u78, u79, u80, u81, u82, u83, u84, u85, u86, u87, u88, u89, u90, u91, u92, u93, u94, u95, u96, u97, u98, u99, u100, u101, u102, u103, u104, u105, u106, u107, u108, u109, u110, u111, u112, u113, u114, u115, u116, u117, u118, u119, u120, u121, u122, u123, u124, u125, u126, u127, u128, u129, u130, u131, u132, u133, u134, u135, u136, u137, u138, u139, u140, u141, u142, u143, u144, u145, u146, u147, u148, u149, u150, u151, u152, u153, u154, u155, u156, u157, u158, u159, u160, u161, u162, u163, u164, u165, u166, u167, u168, u169, u170, u171, u172, u173, u174, u175, u176, u177, u178, u179, u180, u181, u182, u183, u184, u185, u186, u187, u188, u189, u190, u191, u192, u193, u194, u195, u196], []⟩ w := by
  have HQ := Lib.hid hQ
  clear hQ
  unfold L2Wp Tryd.f16
  simp only [seqA, seqB, Option.getD]
  go_quiet (fail)
  exact HQ.out nq _ _ _ _ _ _ _ _ _ _ _ _ _ _ _ _ _ _ _ _ _ _ _ _ _ _ _
set_option maxRecDepth 100000 in
set_option maxHeartbeats 4000000 in
theorem load_r2 (w : World) (ad : Addr) (n c : Nat) (nm : ByteArray) (lo fi : Int) (hn : 4 ≤ n) (h0 : 0 ≤ lo) (h1 : 0 ≤ fi) (Q : Exit → Act → World → Prop) (u0 u1 u2 u3 u5 u7 u8 u9 u10 u11 u12 u13 u14 u15 u16 u17 u18 u19 u20 u21 u22 u23 u24 u25 u26 u27 u28 u29 u30 u31 u32 u33 u34 u35 u36 u37 u38 u39 u40 u41 u42 u43 u44 u45 u46 u47 u48 u49 u50 u51 u52 u53 u54 u55 u56 u57 u58 u59 u60 u61 u62 u63 u64 u65 u66 u67 u68 u69 u70 u71 u72 u73 u74 u75 u76 u77 u78 u79 u80 u81 u82 u83 u84 u85 u86 u87 u88 u89 u90 u91 u92 u93 u94 u95 u96 u97 u98 u99 u100 u101 u102 u103 u104 u105 u106 u107 u108 u109 u110 u111 u112 u113 u114 u115 u116 u117 u118 u119 u120 u121 u122 u123 u124 u125 u126 u127 u128 u129 u130 u131 u132 u133 u134 u135 u136 u137 u138 u139 u140 u141 u142 u143 u144 u145 u146 u147 u148 u149 u150 u151 u152 u153 u154 u155 u156 u157 u158 u159 u160 u161 u162 u163 u164 u165 u166 u167 u168 u169 u170 u171 u172 u173 u174 u175 u176 u177 u178 u179 u180 u181 u182 u183 u184 u185 u186 u187 u188 u189 u190 u191 u192 u193 u194 u195 u196 : Value)
    (k0 : w.cell? ⟨ad.block, ad.off + 2, none⟩ = some (.string nm)) (k1 : w.cell? ⟨ad.block, ad.off + 3 + 1, none⟩ = some (.int .u64 lo)) (k2 : w.cell? ⟨ad.block, ad.off + 6 + 1, none⟩ = some (.int .u64 fi))
    (hQ : ∀ w' (u17 u18 u19 u20 u21 u22 u23 u24 u25 u26 u27 u28 u29 u30 u31 u32 u33 u34 u35 u36 u37 u38 u39 u40 u41 u42 u43 : Value) (bad : Bool), bad = (!(wordB nm) || decide (fi < lo) || decide (9007199254740991 < fi)) → Below w.heap.size w w' → Q .normal ⟨#[u0, u1, u2, u3, .slice (some ad) n c, u5, .bool true, u7, u8, u9, u10, u11, u12, u13, u14, u15, u16, u17, u18, u19, u20, u21, u22, u23, u24, u25, u26, u27, u28, u29, u30, u31, u32, u33, u34, u35, u36, u37, u38, u39, u40, u41, u42, u43, .bool bad, u45, u46, u47, u48, u49, u50, u51, u52, u53, u54, u55, u56, u57, u58, u59, u60, u61, u62, u63, u64, u65, u66, u67, u68, u69, u70, u71, u72, u73, u74, u75, u76, u77, u78, u79, u80, u81, u82, u83, u84, u85, u86, u87, u88, u89, u90, u91, u92, u93, u94, u95, u96, u97, u98, u99, u100, u101, u102, u103, u104, u105, u106, u107, u108, u109, u110, u111, u112, u113, u114, u115, u116, u117, u118, u119, u120, u121, u122, u123, u124, u125, u126, u127, u128, u129, u130, u131, u132, u133, u134, u135, u136, u137, u138, u139, u140, u141, u142, u143, u144, u145, u146, u147, u148, u149, u150, u151, u152, u153, u154, u155, u156, u157, u158, u159, u160, u161, u162, u163, u164, u165, u166, u167, u168, u169, u170, u171, u172, u173, u174, u175, u176, u177, u178, u179, u180, u181, u182, u183, u184, u185, u186, u187, u188, u189, u190, u191, u192, u193, u194, u195, u196], []⟩ w') :
    L2Wp Q ⟨#[u0, u1, u2, u3, .slice (some ad) n c, u5, .bool true, u7, u8, u9, u10, u11, u12, u13, u14, u15, u16, u17, u18, u19, u20, u21, u22, u23, u24, u25, u26, u27, u28, u29, u30, u31, u32, u33, u34, u35, u36, u37, u38, u39, u40, u41, u42, u43, u44, u45, u46, u47, u48, u49, u50, u51, u52, u53, u54, u55, u56, u57, u58, u59, u60, u61, u62, u63, u64, u65, u66, u67, u68, u69, u70, u71, u72, u73, u74, u75, u76, u77, u78, u79, u80, u81, u82, u83, u84, u85, u86, u87, u88, u89, u90, u91, u92, u93, u94, u95, u96, u97, u98, u99, u100, u101, u102, u103, u104, u105, u106, u107, u108, u109, u110, u111, u112, u113, u114, u115, u116, u117, u118, u119, u120, u121, u122, u123, u124, u125, u126, u127, u128, u129, u130, u131, u132, u133, u134, u135, u136, u137, u138, u139, u140, u141, u142, u143, u144, u145, u146, u147, u148, u149, u150, u151, u152, u153, u154, u155, u156, u157, u158, u159, u160, u161, u162, u163, u164, u165, u166, u167, u168, u169, u170, u171, u172, u173, u174, u175, u176, u177, u178, u179, u180, u181, u182, u183, u184, u185, u186, u187, u188, u189, u190, u191, u192, u193, u194, u195, u196], []⟩ w := by
  have hW := fun W => word_any nm W
  have hn3 : (2 : Int) < n := by omega
  have hn2 : (1 : Int) < n := by omega
  have hn1 : (0 : Int) < n := by omega
  have HQ := Lib.hid hQ
  clear hQ
  by_cases hw : wordB nm = true
  · rw [hw] at hW
    have HW := Lib.hid hW
    clear hW
    by_cases hl : fi < lo
    · have hd : decide (fi < lo) = true := decide_eq_true hl
      unfold L2Wp Tryd.f16
      simp only [seqA, seqB, Option.getD]
      refine wp_region_below (by kernel_rfl) (by kernel_rfl) ?_
      intro X _ G hG hS
      have k0 : ∀ x, (G x).cell? ⟨ad.block, ad.off + 2, none⟩ = some (.string nm) := fun x => pw_cell_below (hG x) k0
      have k1 : ∀ x, (G x).cell? ⟨ad.block, ad.off + 3 + 1, none⟩ = some (.int .u64 lo) := fun x => pw_cell_below (hG x) k1
      have k2 : ∀ x, (G x).cell? ⟨ad.block, ad.off + 6 + 1, none⟩ = some (.int .u64 fi) := fun x => pw_cell_below (hG x) k2
      have HG := Lib.hid hG
      have HS := Lib.hid hS
      clear hG hS
      repeat (go_big_quiet_step ((go_at_call 34; exact (HW.out _).mono (fun e w' h => ⟨h.1, HS.out _ _ h.2⟩))))
      refine wpQuiet_nil ?_
      intro _ hw9
      obtain ⟨x, hx⟩ := hw9
      subst hx
      exact HQ.out (G x) _ _ _ _ _ _ _ _ _ _ _ _ _ _ _ _ _ _ _ _ _ _ _ _ _ _ _ _ (by rw [hw, hd]; simp) (HG.out x)
    · have hd : decide (fi < lo) = false := decide_eq_false hl
      unfold L2Wp Tryd.f16
      simp only [seqA, seqB, Option.getD]
      refine wp_region_below (by kernel_rfl) (by kernel_rfl) ?_
      intro X _ G hG hS
      have k0 : ∀ x, (G x).cell? ⟨ad.block, ad.off + 2, none⟩ = some (.string nm) := fun x => pw_cell_below (hG x) k0
      have k1 : ∀ x, (G x).cell? ⟨ad.block, ad.off + 3 + 1, none⟩ = some (.int .u64 lo) := fun x => pw_cell_below (hG x) k1
      have k2 : ∀ x, (G x).cell? ⟨ad.block, ad.off + 6 + 1, none⟩ = some (.int .u64 fi) := fun x => pw_cell_below (hG x) k2
      have HG := Lib.hid hG
      have HS := Lib.hid hS
      clear hG hS
      repeat (go_big_quiet_step ((go_at_call 34; exact (HW.out _).mono (fun e w' h => ⟨h.1, HS.out _ _ h.2⟩))))
      refine wpQuiet_nil ?_
      intro _ hw9
      obtain ⟨x, hx⟩ := hw9
      subst hx
      exact HQ.out (G x) _ _ _ _ _ _ _ _ _ _ _ _ _ _ _ _ _ _ _ _ _ _ _ _ _ _ _ _ (by rw [hw, hd]; rfl) (HG.out x)
  · have hw' : wordB nm = false := by simpa using hw
    rw [hw'] at hW
    have HW := Lib.hid hW
    clear hW hw
    unfold L2Wp Tryd.f16
    simp only [seqA, seqB, Option.getD]
    refine wp_region_below (by kernel_rfl) (by kernel_rfl) ?_
    intro X _ G hG hS
    have k0 : ∀ x, (G x).cell? ⟨ad.block, ad.off + 2, none⟩ = some (.string nm) := fun x => pw_cell_below (hG x) k0
    have k1 : ∀ x, (G x).cell? ⟨ad.block, ad.off + 3 + 1, none⟩ = some (.int .u64 lo) := fun x => pw_cell_below (hG x) k1
    have k2 : ∀ x, (G x).cell? ⟨ad.block, ad.off + 6 + 1, none⟩ = some (.int .u64 fi) := fun x => pw_cell_below (hG x) k2
    have HG := Lib.hid hG
    have HS := Lib.hid hS
    clear hG hS
    repeat (go_big_quiet_step ((go_at_call 34; exact (HW.out _).mono (fun e w' h => ⟨h.1, HS.out _ _ h.2⟩))))
    refine wpQuiet_nil ?_
    intro _ hw9
    obtain ⟨x, hx⟩ := hw9
    subst hx
    exact HQ.out (G x) _ _ _ _ _ _ _ _ _ _ _ _ _ _ _ _ _ _ _ _ _ _ _ _ _ _ _ _ (by rw [hw']; simp) (HG.out x)
end Go.Proofs.YtdbnanniboiooaaDoor
namespace Go.Proofs.YtdbnanniboiooaaDoor
open Go.RowKit Go.Proofs.Carillon Go.Proofs.YtdbnanniboiooaaDoorW.PrintWords Go.Lib Go.Shelf
def L4Wp (Q : Exit → Act → World → Prop) (a : Act) (w : World) : Prop := Code.wp Tryd.prog (seqA (seqB (seqB (seqB (Tryd.f16.body.getD .skip))))) Q a w

theorem mk_topic' (w : World) (name : ByteArray) (lo fi : Int) : TopicAt ((w.alloc (.map #[] 0)).alloc (.cells #[.string name, .int .i64 lo, .int .i64 fi, .map (some w.heap.size), .slice none 0 0] 82)) (fun k => w.heap.size ≤ k) (w.heap.size + 1) w.heap.size (.slice none 0 0) ⟨name, lo, fi, [], []⟩ := by
  refine ⟨?_, by omega, Nat.le_refl _, ?_, Kd.R_nil _ _ _ _ _⟩
  · have := heap_alloc_new (w.alloc (.map #[] 0)) (.cells #[.string name, .int .i64 lo, .int .i64 fi, .map (some w.heap.size), .slice none 0 0] 82)
    simpa using this
  · refine (MapOf.made w Tryd.prog 9 lastE).move ?_
    exact Below.heap_alloc _ _ _ (by simp)
set_option maxRecDepth 100000 in
set_option maxHeartbeats 4000000 in
theorem load_r4 (w : World) (ad : Addr) (n c : Nat) (nm : ByteArray) (lo fi : Int) (hn : 4 ≤ n) (h0 : 0 ≤ lo) (h1 : 0 ≤ fi) (h2 : lo ≤ 9007199254740991) (h3 : fi ≤ 9007199254740991) (Q : Exit → Act → World → Prop) (u0 u1 u2 u3 u5 u6 u7 u8 u9 u10 u11 u12 u13 u14 u15 u16 u17 u18 u19 u20 u21 u22 u23 u24 u25 u26 u27 u28 u29 u30 u31 u32 u33 u34 u35 u36 u37 u38 u39 u40 u41 u42 u43 u44 u45 u46 u47 u48 u49 u50 u51 u52 u53 u54 u55 u56 u57 u58 u59 u60 u61 u62 u63 u64 u65 u66 u67 u68 u69 u70 u71 u72 u73 u74 u75 u76 u77 u78 u79 u80 u81 u82 u83 u84 u85 u86 u87 u88 u89 u90 u91 u92 u93 u94 u95 u96 u97 u98 u99 u100 u101 u102 u103 u104 u105 u106 u107 u108 u109 u110 u111 u112 u113 u114 u115 u116 u117 u118 u119 u120 u121 u122 u123 u124 u125 u126 u127 u128 u129 u130 u131 u132 u133 u134 u135 u136 u137 u138 u139 u140 u141 u142 u143 u144 u145 u146 u147 u148 u149 u150 u151 u152 u153 u154 u155 u156 u157 u158 u159 u160 u161 u162 u163 u164 u165 u166 u167 u168 u169 u170 u171 u172 u173 u174 u175 u176 u177 u178 u179 u180 u181 u182 u183 u184 u185 u186 u187 u188 u189 u190 u191 u192 u193 u194 u195 u196 : Value)
    (k0 : w.cell? ⟨ad.block, ad.off + 2, none⟩ = some (.string nm)) (k1 : w.cell? ⟨ad.block, ad.off + 3 + 1, none⟩ = some (.int .u64 lo)) (k2 : w.cell? ⟨ad.block, ad.off + 6 + 1, none⟩ = some (.int .u64 fi))
    (hQ : ∀ w' (u45 u46 u47 u48 u49 u50 u51 u52 u53 u54 u55 u56 u57 u58 u59 u60 u61 : Value) a' bm, TopicAt w' (fun k => w.heap.size ≤ k) a' bm (.slice none 0 0) ⟨nm, lo, fi, [], []⟩ → Below w.heap.size w w' → Q .normal ⟨#[u0, u1, u2, u3, .slice (some ad) n c, u5, u6, .pointer (some ⟨a', 0, none⟩), u8, u9, u10, u11, u12, u13, u14, u15, u16, u17, u18, u19, u20, u21, u22, u23, u24, u25, u26, u27, u28, u29, u30, u31, u32, u33, u34, u35, u36, u37, u38, u39, u40, u41, u42, u43, u44, u45, u46, u47, u48, u49, u50, u51, u52, u53, u54, u55, u56, u57, u58, u59, u60, u61, u62, u63, u64, u65, u66, u67, u68, u69, u70, u71, u72, u73, u74, u75, u76, u77, u78, u79, u80, u81, u82, u83, u84, u85, u86, u87, u88, u89, u90, u91, u92, u93, u94, u95, u96, u97, u98, u99, u100, u101, u102, u103, u104, u105, u106, u107, u108, u109, u110, u111, u112, u113, u114, u115, u116, u117, u118, u119, u120, u121, u122, u123, u124, u125, u126, u127, u128, u129, u130, u131, u132, u133, u134, u135, u136, u137, u138, u139, u140, u141, u142, u143, u144, u145, u146, u147, u148, u149, u150, u151, u152, u153, u154, u155, u156, u157, u158, u159, u160, u161, u162, u163, u164, u165, u166, u167, u168, u169, u170, u171, u172, u173, u174, u175, u176, u177, u178, u179, u180, u181, u182, u183, u184, u185, u186, u187, u188, u189, u190, u191, u192, u193, u194, u195, u196], []⟩ w') :
    L4Wp Q ⟨#[u0, u1, u2, u3, .slice (some ad) n c, u5, u6, u7, u8, u9, u10, u11, u12, u13, u14, u15, u16, u17, u18, u19, u20, u21, u22, u23, u24, u25, u26, u27, u28, u29, u30, u31, u32, u33, u34, u35, u36, u37, u38, u39, u40, u41, u42, u43, u44, u45, u46, u47, u48, u49, u50, u51, u52, u53, u54, u55, u56, u57, u58, u59, u60, u61, u62, u63, u64, u65, u66, u67, u68, u69, u70, u71, u72, u73, u74, u75, u76, u77, u78, u79, u80, u81, u82, u83, u84, u85, u86, u87, u88, u89, u90, u91, u92, u93, u94, u95, u96, u97, u98, u99, u100, u101, u102, u103, u104, u105, u106, u107, u108, u109, u110, u111, u112, u113, u114, u115, u116, u117, u118, u119, u120, u121, u122, u123, u124, u125, u126, u127, u128, u129, u130, u131, u132, u133, u134, u135, u136, u137, u138, u139, u140, u141, u142, u143, u144, u145, u146, u147, u148, u149, u150, u151, u152, u153, u154, u155, u156, u157, u158, u159, u160, u161, u162, u163, u164, u165, u166, u167, u168, u169, u170, u171, u172, u173, u174, u175, u176, u177, u178, u179, u180, u181, u182, u183, u184, u185, u186, u187, u188, u189, u190, u191, u192, u193, u194, u195, u196], []⟩ w := by
  have hmm := @run_makeMap Tryd.prog
  have hn3 : (2 : Int) < n := by omega
  have hn2 : (1 : Int) < n := by omega
  have hn1 : (0 : Int) < n := by omega
  have hn00 : 0 < n := by omega
  have hw1 : IntKind.i64.wrap lo = lo := IntWalk.i64_in _ (by omega)
  have hw2 : IntKind.i64.wrap fi = fi := IntWalk.i64_in _ (by omega)
  have k0a : ∀ o, (w.alloc o).cell? ⟨ad.block, ad.off + 2, none⟩ = some (.string nm) := fun o => pw_cell_below (below_alloc (Below.refl _ _) _) k0
  have k1a : ∀ o, (w.alloc o).cell? ⟨ad.block, ad.off + 3 + 1, none⟩ = some (.int .u64 lo) := fun o => pw_cell_below (below_alloc (Below.refl _ _) _) k1
  have k2a : ∀ o, (w.alloc o).cell? ⟨ad.block, ad.off + 6 + 1, none⟩ = some (.int .u64 fi) := fun o => pw_cell_below (below_alloc (Below.refl _ _) _) k2
  have HQ := Lib.hid hQ
  clear hQ
  unfold L4Wp Tryd.f16
  simp only [seqA, seqB, Option.getD]
  have d0 : w.drew.cell? ⟨ad.block, ad.off + 2, none⟩ = some (.string nm) := k0
  have d1 : w.drew.cell? ⟨ad.block, ad.off + 3 + 1, none⟩ = some (.int .u64 lo) := k1
  have d2 : w.drew.cell? ⟨ad.block, ad.off + 6 + 1, none⟩ = some (.int .u64 fi) := k2
  have e0 : ∀ o, (w.drew.alloc o).cell? ⟨ad.block, ad.off + 2, none⟩ = some (.string nm) := k0a
  have e1 : ∀ o, (w.drew.alloc o).cell? ⟨ad.block, ad.off + 3 + 1, none⟩ = some (.int .u64 lo) := k1a
  have e2 : ∀ o, (w.drew.alloc o).cell? ⟨ad.block, ad.off + 6 + 1, none⟩ = some (.int .u64 fi) := k2a
  have f0 : ∀ o o', ((w.drew.alloc o).alloc o').cell? ⟨ad.block, ad.off + 2, none⟩ = some (.string nm) := fun o o' => pw_cell_below (below_alloc (below_alloc (Below.refl _ _) _) _) d0
  have f1 : ∀ o o', ((w.drew.alloc o).alloc o').cell? ⟨ad.block, ad.off + 3 + 1, none⟩ = some (.int .u64 lo) := fun o o' => pw_cell_below (below_alloc (below_alloc (Below.refl _ _) _) _) d1
  have f2 : ∀ o o', ((w.drew.alloc o).alloc o').cell? ⟨ad.block, ad.off + 6 + 1, none⟩ = some (.int .u64 fi) := fun o o' => pw_cell_below (below_alloc (below_alloc (Below.refl _ _) _) _) d2
  clear k0 k1 k2 k0a k1a k2a
  go_region_held3 (fun w' => w'.cell? ⟨ad.block, ad.off + 2, none⟩ = some (.string nm) ∧ w'.cell? ⟨ad.block, ad.off + 3 + 1, none⟩ = some (.int .u64 lo) ∧ w'.cell? ⟨ad.block, ad.off + 6 + 1, none⟩ = some (.int .u64 fi)) (first | exact ⟨d0, d1, d2⟩ | exact ⟨e0 _, e1 _, e2 _⟩ | exact ⟨f0 _ _, f1 _ _, f2 _ _⟩ | go_keep) (first | fail)
  all_goals exact HQ.out _ _ _ _ _ _ _ _ _ _ _ _ _ _ _ _ _ _ (w.heap.size + 1) w.heap.size ((mk_topic' w nm lo fi).move (fun _ _ _ => rfl)) (below_drew (below_alloc (below_alloc (Below.refl _ _) _) _))
end Go.Proofs.YtdbnanniboiooaaDoor
namespace Go.Proofs.YtdbnanniboiooaaDoor
open Go.RowKit Go.Proofs.Carillon Go.Proofs.YtdbnanniboiooaaDoorW.PrintWords Go.Lib Go.Shelf
def loopB : Code → Code | .loop c => c | c => c
def blockB : Code → Code | .block _ c => c | c => c
/-- The first loop's body. -/
def L1Wp (f : Code → Code) (Q : Exit → Act → World → Prop) (a : Act) (w : World) : Prop := Code.wp Tryd.prog (f (loopB (blockB (seqB (seqA (seqB (seqB (seqB (seqB (seqB (Tryd.f16.body.getD .skip))))))))))) Q a w
/-- Whether a name is not behind another one. -/
def leB (a b : ByteArray) : Bool := Op.bytesLess a.toList b.toList || a.toList == b.toList
def r9 (c : Code) : Code := seqA (seqA (blockB (seqA (seqB c))))

set_option maxRecDepth 100000 in
set_option maxHeartbeats 4000000 in
theorem load_r9 (w : World) (ad : Addr) (n c a : Nat) (nm pv : ByteArray) (sq of fi : Int) (hn : 3 ≤ n) (h0 : 0 ≤ sq) (h1 : 0 ≤ of) (h2 : 0 ≤ fi) (h3 : fi ≤ 9007199254740991) (Q : Exit → Act → World → Prop) (u0 u1 u2 u3 u5 u6 u9 u10 u11 u12 u13 u14 u15 u16 u17 u18 u19 u20 u21 u22 u23 u24 u25 u26 u27 u28 u29 u30 u31 u32 u33 u34 u35 u36 u37 u38 u39 u40 u41 u42 u43 u44 u45 u46 u47 u48 u49 u50 u51 u52 u53 u54 u55 u56 u57 u58 u59 u60 u61 u62 u63 u64 u65 u66 u67 u68 u69 u70 u71 u72 u73 u74 u75 u76 u77 u78 u79 u80 u81 u82 u83 u84 u85 u86 u87 u88 u89 u90 u91 u92 u93 u94 u95 u96 u97 u98 u99 u100 u101 u102 u103 u104 u105 u106 u107 u108 u109 u110 u111 u112 u113 u114 u115 u116 u117 u118 u119 u120 u121 u122 u123 u124 u125 u126 u127 u128 u129 u130 u131 u132 u133 u134 u135 u136 u137 u138 u139 u140 u141 u142 u143 u144 u145 u146 u147 u148 u149 u150 u151 u152 u153 u154 u155 u156 u157 u158 u159 u160 u161 u162 u163 u164 u165 u166 u167 u168 u169 u170 u171 u172 u173 u174 u175 u176 u177 u178 u179 u180 u181 u182 u183 u184 u185 u186 u187 u188 u189 u190 u191 u192 u193 u194 u195 u196 : Value)
    (k0 : w.cell? ⟨ad.block, ad.off + 2, none⟩ = some (.string nm)) (k1 : w.cell? ⟨ad.block, ad.off + 3 + 1, none⟩ = some (.int .u64 sq)) (k2 : w.cell? ⟨ad.block, ad.off + 6 + 1, none⟩ = some (.int .u64 of)) (k3 : w.cell? ⟨a, 2, none⟩ = some (.int .i64 fi))
    (hQ : ∀ w' (u70 u71 u72 u73 u74 u75 u76 u77 u78 u79 u80 u81 u82 u83 u84 u85 u86 u87 u88 u89 u90 u91 u92 u93 u94 u95 u96 u97 u98 u99 u100 u101 : Value) (bad : Bool), bad = (!(wordB nm) || leB nm pv || decide (9007199254740991 < sq) || decide (fi ≤ of)) → Below w.heap.size w w' → Q .normal ⟨#[u0, u1, u2, u3, .slice (some ad) n c, u5, u6, .pointer (some ⟨a, 0, none⟩), .string pv, u9, u10, u11, u12, u13, u14, u15, u16, u17, u18, u19, u20, u21, u22, u23, u24, u25, u26, u27, u28, u29, u30, u31, u32, u33, u34, u35, u36, u37, u38, u39, u40, u41, u42, u43, u44, u45, u46, u47, u48, u49, u50, u51, u52, u53, u54, u55, u56, u57, u58, u59, u60, u61, u62, u63, u64, u65, u66, u67, u68, u69, u70, u71, u72, u73, u74, u75, u76, u77, u78, u79, u80, u81, u82, u83, u84, u85, u86, u87, u88, u89, u90, u91, u92, u93, u94, u95, u96, u97, u98, u99, u100, u101, .bool bad, u103, u104, u105, u106, u107, u108, u109, u110, u111, u112, u113, u114, u115, u116, u117, u118, u119, u120, u121, u122, u123, u124, u125, u126, u127, u128, u129, u130, u131, u132, u133, u134, u135, u136, u137, u138, u139, u140, u141, u142, u143, u144, u145, u146, u147, u148, u149, u150, u151, u152, u153, u154, u155, u156, u157, u158, u159, u160, u161, u162, u163, u164, u165, u166, u167, u168, u169, u170, u171, u172, u173, u174, u175, u176, u177, u178, u179, u180, u181, u182, u183, u184, u185, u186, u187, u188, u189, u190, u191, u192, u193, u194, u195, u196], []⟩ w') :
    L1Wp r9 Q ⟨#[u0, u1, u2, u3, .slice (some ad) n c, u5, u6, .pointer (some ⟨a, 0, none⟩), .string pv, u9, u10, u11, u12, u13, u14, u15, u16, u17, u18, u19, u20, u21, u22, u23, u24, u25, u26, u27, u28, u29, u30, u31, u32, u33, u34, u35, u36, u37, u38, u39, u40, u41, u42, u43, u44, u45, u46, u47, u48, u49, u50, u51, u52, u53, u54, u55, u56, u57, u58, u59, u60, u61, u62, u63, u64, u65, u66, u67, u68, u69, u70, u71, u72, u73, u74, u75, u76, u77, u78, u79, u80, u81, u82, u83, u84, u85, u86, u87, u88, u89, u90, u91, u92, u93, u94, u95, u96, u97, u98, u99, u100, u101, u102, u103, u104, u105, u106, u107, u108, u109, u110, u111, u112, u113, u114, u115, u116, u117, u118, u119, u120, u121, u122, u123, u124, u125, u126, u127, u128, u129, u130, u131, u132, u133, u134, u135, u136, u137, u138, u139, u140, u141, u142, u143, u144, u145, u146, u147, u148, u149, u150, u151, u152, u153, u154, u155, u156, u157, u158, u159, u160, u161, u162, u163, u164, u165, u166, u167, u168, u169, u170, u171, u172, u173, u174, u175, u176, u177, u178, u179, u180, u181, u182, u183, u184, u185, u186, u187, u188, u189, u190, u191, u192, u193, u194, u195, u196], []⟩ w := by
  have hW := fun W => word_any nm W
  have hn3 : (2 : Int) < n := by omega
  have hn2 : (1 : Int) < n := by omega
  have hn1 : (0 : Int) < n := by omega
  have HQ := Lib.hid hQ
  clear hQ
  by_cases hw : wordB nm = true
  · rw [hw] at hW
    have HW := Lib.hid hW
    have HWB := Lib.hid hw
    clear hW hw
    cases hlb : (Op.bytesLess nm.toList pv.toList || nm.toList == pv.toList)
    · have HLB := Lib.hid (show leB nm pv = false from hlb)
      by_cases hl : 9007199254740991 < sq
      · have hd : decide (9007199254740991 < sq) = true := decide_eq_true hl
        unfold L1Wp Tryd.f16 r9
        simp only [seqA, seqB, loopB, blockB, Option.getD]
        refine wp_region_below (by kernel_rfl) (by kernel_rfl) ?_
        intro X _ G hG hS
        have k0 : ∀ x, (G x).cell? ⟨ad.block, ad.off + 2, none⟩ = some (.string nm) := fun x => pw_cell_below (hG x) k0
        have k1 : ∀ x, (G x).cell? ⟨ad.block, ad.off + 3 + 1, none⟩ = some (.int .u64 sq) := fun x => pw_cell_below (hG x) k1
        have k2 : ∀ x, (G x).cell? ⟨ad.block, ad.off + 6 + 1, none⟩ = some (.int .u64 of) := fun x => pw_cell_below (hG x) k2
        have k3 : ∀ x, (G x).cell? ⟨a, 2, none⟩ = some (.int .i64 fi) := fun x => pw_cell_below (hG x) k3
        have HG := Lib.hid hG
        have HS := Lib.hid hS
        clear hG hS
        repeat (go_big_quiet_step ((go_at_call 34; exact (HW.out _).mono (fun e w' h => ⟨h.1, HS.out _ _ h.2⟩))))
        refine wpQuiet_nil ?_
        intro _ hw9
        obtain ⟨x, hx⟩ := hw9
        subst hx
        exact HQ.out (G x) _ _ _ _ _ _ _ _ _ _ _ _ _ _ _ _ _ _ _ _ _ _ _ _ _ _ _ _ _ _ _ _ _ (by rw [HWB.out, HLB.out, hd]; simp) (HG.out x)
      · have hd : decide (9007199254740991 < sq) = false := decide_eq_false hl
        unfold L1Wp Tryd.f16 r9
        simp only [seqA, seqB, loopB, blockB, Option.getD]
        refine wp_region_below (by kernel_rfl) (by kernel_rfl) ?_
        intro X _ G hG hS
        have k0 : ∀ x, (G x).cell? ⟨ad.block, ad.off + 2, none⟩ = some (.string nm) := fun x => pw_cell_below (hG x) k0
        have k1 : ∀ x, (G x).cell? ⟨ad.block, ad.off + 3 + 1, none⟩ = some (.int .u64 sq) := fun x => pw_cell_below (hG x) k1
        have k2 : ∀ x, (G x).cell? ⟨ad.block, ad.off + 6 + 1, none⟩ = some (.int .u64 of) := fun x => pw_cell_below (hG x) k2
        have k3 : ∀ x, (G x).cell? ⟨a, 2, none⟩ = some (.int .i64 fi) := fun x => pw_cell_below (hG x) k3
        have HG := Lib.hid hG
        have HS := Lib.hid hS
        clear hG hS
        repeat (go_big_quiet_step ((go_at_call 34; exact (HW.out _).mono (fun e w' h => ⟨h.1, HS.out _ _ h.2⟩))))
        refine wpQuiet_nil ?_
        intro _ hw9
        obtain ⟨x, hx⟩ := hw9
        subst hx
        exact HQ.out (G x) _ _ _ _ _ _ _ _ _ _ _ _ _ _ _ _ _ _ _ _ _ _ _ _ _ _ _ _ _ _ _ _ _ (by rw [HWB.out, HLB.out, hd]; rfl) (HG.out x)
    · have HLB := Lib.hid (show leB nm pv = true from hlb)
      unfold L1Wp Tryd.f16 r9
      simp only [seqA, seqB, loopB, blockB, Option.getD]
      refine wp_region_below (by kernel_rfl) (by kernel_rfl) ?_
      intro X _ G hG hS
      have k0 : ∀ x, (G x).cell? ⟨ad.block, ad.off + 2, none⟩ = some (.string nm) := fun x => pw_cell_below (hG x) k0
      have k1 : ∀ x, (G x).cell? ⟨ad.block, ad.off + 3 + 1, none⟩ = some (.int .u64 sq) := fun x => pw_cell_below (hG x) k1
      have k2 : ∀ x, (G x).cell? ⟨ad.block, ad.off + 6 + 1, none⟩ = some (.int .u64 of) := fun x => pw_cell_below (hG x) k2
      have k3 : ∀ x, (G x).cell? ⟨a, 2, none⟩ = some (.int .i64 fi) := fun x => pw_cell_below (hG x) k3
      have HG := Lib.hid hG
      have HS := Lib.hid hS
      clear hG hS
      repeat (go_big_quiet_step ((go_at_call 34; exact (HW.out _).mono (fun e w' h => ⟨h.1, HS.out _ _ h.2⟩))))
      refine wpQuiet_nil ?_
      intro _ hw9
      obtain ⟨x, hx⟩ := hw9
      subst hx
      exact HQ.out (G x) _ _ _ _ _ _ _ _ _ _ _ _ _ _ _ _ _ _ _ _ _ _ _ _ _ _ _ _ _ _ _ _ _ (by rw [HWB.out, HLB.out]; simp) (HG.out x)
  · have hw' : wordB nm = false := by simpa using hw
    rw [hw'] at hW
    have HW := Lib.hid hW
    have HWB := Lib.hid hw'
    clear hW hw hw'
    unfold L1Wp Tryd.f16 r9
    simp only [seqA, seqB, loopB, blockB, Option.getD]
    refine wp_region_below (by kernel_rfl) (by kernel_rfl) ?_
    intro X _ G hG hS
    have k0 : ∀ x, (G x).cell? ⟨ad.block, ad.off + 2, none⟩ = some (.string nm) := fun x => pw_cell_below (hG x) k0
    have k1 : ∀ x, (G x).cell? ⟨ad.block, ad.off + 3 + 1, none⟩ = some (.int .u64 sq) := fun x => pw_cell_below (hG x) k1
    have k2 : ∀ x, (G x).cell? ⟨ad.block, ad.off + 6 + 1, none⟩ = some (.int .u64 of) := fun x => pw_cell_below (hG x) k2
    have k3 : ∀ x, (G x).cell? ⟨a, 2, none⟩ = some (.int .i64 fi) := fun x => pw_cell_below (hG x) k3
    have HG := Lib.hid hG
    have HS := Lib.hid hS
    clear hG hS
    repeat (go_big_quiet_step ((go_at_call 34; exact (HW.out _).mono (fun e w' h => ⟨h.1, HS.out _ _ h.2⟩))))
    refine wpQuiet_nil ?_
    intro _ hw9
    obtain ⟨x, hx⟩ := hw9
    subst hx
    exact HQ.out (G x) _ _ _ _ _ _ _ _ _ _ _ _ _ _ _ _ _ _ _ _ _ _ _ _ _ _ _ _ _ _ _ _ _ (by rw [HWB.out]; simp) (HG.out x)
end Go.Proofs.YtdbnanniboiooaaDoor
namespace Go.Proofs.YtdbnanniboiooaaDoor
open Go.RowKit Go.Proofs.Carillon Go.Proofs.YtdbnanniboiooaaDoorW.PrintWords Go.Lib Go.Shelf
def r12 (c : Code) : Code := seqB (seqB (blockB (seqA (seqB c))))

set_option maxRecDepth 100000 in
set_option maxHeartbeats 4000000 in
theorem load_r12 (w : World) (ok : Nat → Prop) (ad : Addr) (n c a bm : Nat) (rv : Value) (T : Tp) (nm : ByteArray) (sq of : Int) (hn : 3 ≤ n) (h0 : 0 ≤ sq) (h1 : 0 ≤ of) (h2 : sq ≤ 9007199254740991) (h3 : of ≤ 9007199254740991) (Q : Exit → Act → World → Prop) (u0 u1 u2 u3 u5 u6 u9 u10 u11 u12 u13 u14 u15 u16 u17 u18 u19 u20 u21 u22 u23 u24 u25 u26 u27 u28 u29 u30 u31 u32 u33 u34 u35 u36 u37 u38 u39 u40 u41 u42 u43 u44 u45 u46 u47 u48 u49 u50 u51 u52 u53 u54 u55 u56 u57 u58 u59 u60 u61 u62 u63 u64 u65 u66 u67 u68 u69 u70 u71 u72 u73 u74 u75 u76 u77 u78 u79 u80 u81 u82 u83 u84 u85 u86 u87 u88 u89 u90 u91 u92 u93 u94 u95 u96 u97 u98 u99 u100 u101 u102 u103 u104 u105 u106 u107 u108 u109 u110 u111 u112 u113 u114 u115 u116 u117 u118 u119 u120 u121 u122 u123 u124 u125 u126 u127 u128 u129 u130 u131 u132 u133 u134 u135 u136 u137 u138 u139 u140 u141 u142 u143 u144 u145 u146 u147 u148 u149 u150 u151 u152 u153 u154 u155 u156 u157 u158 u159 u160 u161 u162 u163 u164 u165 u166 u167 u168 u169 u170 u171 u172 u173 u174 u175 u176 u177 u178 u179 u180 u181 u182 u183 u184 u185 u186 u187 u188 u189 u190 u191 u192 u193 u194 u195 u196 : Value)
    (k1 : w.cell? ⟨ad.block, ad.off + 3 + 1, none⟩ = some (.int .u64 sq)) (k2 : w.cell? ⟨ad.block, ad.off + 6 + 1, none⟩ = some (.int .u64 of)) (hT : TopicAt w ok a bm rv T) (hsz : nm.size ≤ 20) (hp : T.prods.length ≤ 1000000)
    (hQ : ∀ w' (u107 u108 u109 u110 u111 u112 u113 u114 u115 u116 u117 u118 u119 u120 u121 u122 u123 u124 : Value), TopicAt w' ok a bm rv { T with prods := mput T.prods nm (sq, of) } → Turned ok w w' → Turned (fun k => k = bm) w w' → Q .normal ⟨#[u0, u1, u2, u3, .slice (some ad) n c, u5, u6, .pointer (some ⟨a, 0, none⟩), .string nm, u9, u10, u11, u12, u13, u14, u15, u16, u17, u18, u19, u20, u21, u22, u23, u24, u25, u26, u27, u28, u29, u30, u31, u32, u33, u34, u35, u36, u37, u38, u39, u40, u41, u42, u43, u44, u45, u46, u47, u48, u49, u50, u51, u52, u53, u54, u55, u56, u57, u58, u59, u60, u61, u62, u63, u64, u65, u66, u67, u68, u69, u70, u71, u72, u73, u74, u75, u76, u77, u78, u79, u80, u81, u82, u83, u84, u85, u86, u87, u88, u89, u90, u91, u92, u93, u94, u95, u96, u97, u98, u99, u100, u101, u102, u103, u104, u105, u106, u107, u108, u109, u110, u111, u112, u113, u114, u115, u116, u117, u118, u119, u120, u121, u122, u123, u124, u125, u126, u127, u128, u129, u130, u131, u132, u133, u134, u135, u136, u137, u138, u139, u140, u141, u142, u143, u144, u145, u146, u147, u148, u149, u150, u151, u152, u153, u154, u155, u156, u157, u158, u159, u160, u161, u162, u163, u164, u165, u166, u167, u168, u169, u170, u171, u172, u173, u174, u175, u176, u177, u178, u179, u180, u181, u182, u183, u184, u185, u186, u187, u188, u189, u190, u191, u192, u193, u194, u195, u196], []⟩ w') :
    L1Wp r12 Q ⟨#[u0, u1, u2, u3, .slice (some ad) n c, u5, u6, .pointer (some ⟨a, 0, none⟩), .string nm, u9, u10, u11, u12, u13, u14, u15, u16, u17, u18, u19, u20, u21, u22, u23, u24, u25, u26, u27, u28, u29, u30, u31, u32, u33, u34, u35, u36, u37, u38, u39, u40, u41, u42, u43, u44, u45, u46, u47, u48, u49, u50, u51, u52, u53, u54, u55, u56, u57, u58, u59, u60, u61, u62, u63, u64, u65, u66, u67, u68, u69, u70, u71, u72, u73, u74, u75, u76, u77, u78, u79, u80, u81, u82, u83, u84, u85, u86, u87, u88, u89, u90, u91, u92, u93, u94, u95, u96, u97, u98, u99, u100, u101, u102, u103, u104, u105, u106, u107, u108, u109, u110, u111, u112, u113, u114, u115, u116, u117, u118, u119, u120, u121, u122, u123, u124, u125, u126, u127, u128, u129, u130, u131, u132, u133, u134, u135, u136, u137, u138, u139, u140, u141, u142, u143, u144, u145, u146, u147, u148, u149, u150, u151, u152, u153, u154, u155, u156, u157, u158, u159, u160, u161, u162, u163, u164, u165, u166, u167, u168, u169, u170, u171, u172, u173, u174, u175, u176, u177, u178, u179, u180, u181, u182, u183, u184, u185, u186, u187, u188, u189, u190, u191, u192, u193, u194, u195, u196], []⟩ w := by
  have hn3 : (2 : Int) < n := by omega
  have hn2 : (1 : Int) < n := by omega
  have hn1 : (0 : Int) < n := by omega
  have k3 : w.cell? ⟨a, 3, none⟩ = some (.map (some bm)) := hT.c3
  obtain ⟨w4, hst, hm4, ht4⟩ := (hT.map.move (w1 := w.drew) rfl).store Tryd.underlying9 Tryd.underlying80 (by rw [withNames_length]; unfold maxLen; omega) nm (by unfold maxLen; omega) (nm, sq, of)
  rw [withNames_put] at hm4
  have hst' : (Instr.mapUpdate 80 (.map (some bm)) (.string nm) (.agg #[.int .i64 sq, .int .i64 of, .string nm])).run Tryd.prog w.drew = .ok () w4 := hst
  have hT4 := (hT.move (w1 := w.drew) (fun _ _ _ => rfl)).put_prods hm4 ht4
  have hk4' : Turned (fun k => k = bm) w.drew w4 := Turned.of_map ht4 rfl
  have hk4 : Turned (fun k => k = bm) w w4 := ⟨hk4'.os, hk4'.tape, hk4'.output, hk4'.size, hk4'.block⟩
  have hq := hQ w4
  have okm := hT.okm
  have HT4 := Lib.hid hT4
  have HK4 := Lib.hid hk4
  have HQ := Lib.hid hq
  clear hst hm4 ht4 hT4 hk4 hk4' hQ hq hT
  unfold L1Wp Tryd.f16 r12
  simp only [seqA, seqB, loopB, blockB, Option.getD]
  go_still_tail 18, (by kernel_rfl)
  change wpList _ _ _ _ _ w.drew
  generalize w.drew = w2 at hst'
  go_wp2
  exact HQ.out _ _ _ _ _ _ _ _ _ _ _ _ _ _ _ _ _ _ HT4.out (HK4.out.mono (fun k hk => hk ▸ okm)) HK4.out
end Go.Proofs.YtdbnanniboiooaaDoor
namespace Go.Proofs.YtdbnanniboiooaaDoor
open Go.RowKit Go.Proofs.Carillon Go.Proofs.YtdbnanniboiooaaDoorW.PrintWords Go.Lib Go.Shelf
/-- The second loop's body. -/
def L3Wp (f : Code → Code) (Q : Exit → Act → World → Prop) (a : Act) (w : World) : Prop := Code.wp Tryd.prog (f (loopB (blockB (seqA (seqB (seqB (seqB (seqB (seqB (seqB (seqB (Tryd.f16.body.getD .skip)))))))))))) Q a w
def r16 (c : Code) : Code := seqA (seqA (blockB (seqA (seqB c))))
def r18 (c : Code) : Code := seqA (seqB (blockB (seqA (seqB c))))
def r22 (c : Code) : Code := seqB (seqB (seqB (seqB (blockB (seqA (seqB c))))))

set_option maxRecDepth 100000 in
set_option maxHeartbeats 4000000 in
theorem load_r16 (w : World) (ad : Addr) (n c a : Nat) (sq of fi : Int) (hn : 5 ≤ n) (h0 : 0 ≤ sq) (h1 : 0 ≤ of) (h2 : 0 ≤ fi) (h3 : fi ≤ 9007199254740991) (Q : Exit → Act → World → Prop) (u0 u1 u2 u3 u5 u6 u8 u9 u10 u11 u12 u13 u14 u15 u16 u17 u18 u19 u20 u21 u22 u23 u24 u25 u26 u27 u28 u29 u30 u31 u32 u33 u34 u35 u36 u37 u38 u39 u40 u41 u42 u43 u44 u45 u46 u47 u48 u49 u50 u51 u52 u53 u54 u55 u56 u57 u58 u59 u60 u61 u62 u63 u64 u65 u66 u67 u68 u69 u70 u71 u72 u73 u74 u75 u76 u77 u78 u79 u80 u81 u82 u83 u84 u85 u86 u87 u88 u89 u90 u91 u92 u93 u94 u95 u96 u97 u98 u99 u100 u101 u102 u103 u104 u105 u106 u107 u108 u109 u110 u111 u112 u113 u114 u115 u116 u117 u118 u119 u120 u121 u122 u123 u124 u125 u126 u127 u128 u129 u130 u131 u132 u133 u134 u135 u136 u137 u138 u139 u140 u141 u142 u143 u144 u145 u146 u147 u148 u149 u150 u151 u152 u153 u154 u155 u156 u157 u158 u159 u160 u161 u162 u163 u164 u165 u166 u167 u168 u169 u170 u171 u172 u173 u174 u175 u176 u177 u178 u179 u180 u181 u182 u183 u184 u185 u186 u187 u188 u189 u190 u191 u192 u193 u194 u195 u196 : Value)
    (k1 : w.cell? ⟨ad.block, ad.off + 1, none⟩ = some (.int .u64 of)) (k2 : w.cell? ⟨ad.block, ad.off + 6 + 1, none⟩ = some (.int .u64 sq)) (k3 : w.cell? ⟨a, 2, none⟩ = some (.int .i64 fi))
    (hQ : ∀ w' (u134 u135 u136 u137 u138 u139 u140 u141 u142 u143 u144 u145 u146 u147 u148 u149 : Value) (bad : Bool), bad = (decide (fi ≤ of) || decide (9007199254740991 < sq)) → Below w.heap.size w w' → Q .normal ⟨#[u0, u1, u2, u3, .slice (some ad) n c, u5, u6, .pointer (some ⟨a, 0, none⟩), u8, u9, u10, u11, u12, u13, u14, u15, u16, u17, u18, u19, u20, u21, u22, u23, u24, u25, u26, u27, u28, u29, u30, u31, u32, u33, u34, u35, u36, u37, u38, u39, u40, u41, u42, u43, u44, u45, u46, u47, u48, u49, u50, u51, u52, u53, u54, u55, u56, u57, u58, u59, u60, u61, u62, u63, u64, u65, u66, u67, u68, u69, u70, u71, u72, u73, u74, u75, u76, u77, u78, u79, u80, u81, u82, u83, u84, u85, u86, u87, u88, u89, u90, u91, u92, u93, u94, u95, u96, u97, u98, u99, u100, u101, u102, u103, u104, u105, u106, u107, u108, u109, u110, u111, u112, u113, u114, u115, u116, u117, u118, u119, u120, u121, u122, u123, u124, u125, u126, u127, u128, u129, u130, u131, u132, u133, u134, u135, u136, u137, u138, u139, u140, u141, u142, u143, u144, u145, u146, u147, u148, u149, .bool bad, u151, u152, u153, u154, u155, u156, u157, u158, u159, u160, u161, u162, u163, u164, u165, u166, u167, u168, u169, u170, u171, u172, u173, u174, u175, u176, u177, u178, u179, u180, u181, u182, u183, u184, u185, u186, u187, u188, u189, u190, u191, u192, u193, u194, u195, u196], []⟩ w') :
    L3Wp r16 Q ⟨#[u0, u1, u2, u3, .slice (some ad) n c, u5, u6, .pointer (some ⟨a, 0, none⟩), u8, u9, u10, u11, u12, u13, u14, u15, u16, u17, u18, u19, u20, u21, u22, u23, u24, u25, u26, u27, u28, u29, u30, u31, u32, u33, u34, u35, u36, u37, u38, u39, u40, u41, u42, u43, u44, u45, u46, u47, u48, u49, u50, u51, u52, u53, u54, u55, u56, u57, u58, u59, u60, u61, u62, u63, u64, u65, u66, u67, u68, u69, u70, u71, u72, u73, u74, u75, u76, u77, u78, u79, u80, u81, u82, u83, u84, u85, u86, u87, u88, u89, u90, u91, u92, u93, u94, u95, u96, u97, u98, u99, u100, u101, u102, u103, u104, u105, u106, u107, u108, u109, u110, u111, u112, u113, u114, u115, u116, u117, u118, u119, u120, u121, u122, u123, u124, u125, u126, u127, u128, u129, u130, u131, u132, u133, u134, u135, u136, u137, u138, u139, u140, u141, u142, u143, u144, u145, u146, u147, u148, u149, u150, u151, u152, u153, u154, u155, u156, u157, u158, u159, u160, u161, u162, u163, u164, u165, u166, u167, u168, u169, u170, u171, u172, u173, u174, u175, u176, u177, u178, u179, u180, u181, u182, u183, u184, u185, u186, u187, u188, u189, u190, u191, u192, u193, u194, u195, u196], []⟩ w := by
  have hn3 : (2 : Int) < n := by omega
  have hn1 : (0 : Int) < n := by omega
  have HQ := Lib.hid hQ
  clear hQ
  by_cases hl : fi ≤ of
  · have hd : decide (fi ≤ of) = true := decide_eq_true hl
    unfold L3Wp Tryd.f16 r16
    simp only [seqA, seqB, loopB, blockB, Option.getD]
    refine wp_region_below (by kernel_rfl) (by kernel_rfl) ?_
    intro X _ G hG hS
    have k1 : ∀ x, (G x).cell? ⟨ad.block, ad.off + 1, none⟩ = some (.int .u64 of) := fun x => pw_cell_below (hG x) k1
    have k2 : ∀ x, (G x).cell? ⟨ad.block, ad.off + 6 + 1, none⟩ = some (.int .u64 sq) := fun x => pw_cell_below (hG x) k2
    have k3 : ∀ x, (G x).cell? ⟨a, 2, none⟩ = some (.int .i64 fi) := fun x => pw_cell_below (hG x) k3
    have HG := Lib.hid hG
    clear hG hS
    repeat (go_big_quiet_step (fail))
    refine wpQuiet_nil ?_
    intro _ hw9
    obtain ⟨x, hx⟩ := hw9
    subst hx
    exact HQ.out (G x) _ _ _ _ _ _ _ _ _ _ _ _ _ _ _ _ _ (by rw [hd]; simp) (HG.out x)
  · have hd : decide (fi ≤ of) = false := decide_eq_false hl
    unfold L3Wp Tryd.f16 r16
    simp only [seqA, seqB, loopB, blockB, Option.getD]
    refine wp_region_below (by kernel_rfl) (by kernel_rfl) ?_
    intro X _ G hG hS
    have k1 : ∀ x, (G x).cell? ⟨ad.block, ad.off + 1, none⟩ = some (.int .u64 of) := fun x => pw_cell_below (hG x) k1
    have k2 : ∀ x, (G x).cell? ⟨ad.block, ad.off + 6 + 1, none⟩ = some (.int .u64 sq) := fun x => pw_cell_below (hG x) k2
    have k3 : ∀ x, (G x).cell? ⟨a, 2, none⟩ = some (.int .i64 fi) := fun x => pw_cell_below (hG x) k3
    have HG := Lib.hid hG
    clear hG hS
    repeat (go_big_quiet_step (fail))
    refine wpQuiet_nil ?_
    intro _ hw9
    obtain ⟨x, hx⟩ := hw9
    subst hx
    exact HQ.out (G x) _ _ _ _ _ _ _ _ _ _ _ _ _ _ _ _ _ (by rw [hd]; rfl) (HG.out x)

set_option maxRecDepth 100000 in
set_option maxHeartbeats 4000000 in
theorem load_r18 (w : World) (ad : Addr) (n c : Nat) (r : Rec) (hn : 5 ≤ n) (h0 : 0 ≤ r.off) (h1 : 0 ≤ r.seq) (h2 : r.off ≤ 9007199254740991) (h3 : r.seq ≤ 9007199254740991) (Q : Exit → Act → World → Prop) (u0 u1 u2 u3 u5 u6 u7 u8 u9 u10 u11 u12 u13 u14 u15 u16 u17 u18 u19 u20 u21 u22 u23 u24 u25 u26 u27 u28 u29 u30 u31 u32 u33 u34 u35 u36 u37 u38 u39 u40 u41 u42 u43 u44 u45 u46 u47 u48 u49 u50 u51 u52 u53 u54 u55 u56 u57 u58 u59 u60 u61 u62 u63 u64 u65 u66 u67 u68 u69 u70 u71 u72 u73 u74 u75 u76 u77 u78 u79 u80 u81 u82 u83 u84 u85 u86 u87 u88 u89 u90 u91 u92 u93 u94 u95 u96 u97 u98 u99 u100 u101 u102 u103 u104 u105 u106 u107 u108 u109 u110 u111 u112 u113 u114 u115 u116 u117 u118 u119 u120 u121 u122 u123 u124 u125 u126 u127 u128 u129 u130 u131 u132 u133 u134 u135 u136 u137 u138 u139 u140 u141 u142 u143 u144 u145 u146 u147 u148 u149 u150 u151 u152 u153 u154 u155 u156 u157 u158 u159 u160 u161 u162 u163 u164 u165 u166 u167 u168 u169 u170 u171 u172 u173 u174 u175 u176 u177 u178 u179 u180 u181 u182 u183 u184 u185 u186 u187 u188 u189 u190 u191 u192 u193 u194 u195 u196 : Value)
    (k0 : w.cell? ⟨ad.block, ad.off + 1, none⟩ = some (.int .u64 r.off)) (k1 : w.cell? ⟨ad.block, ad.off + 3 + 2, none⟩ = some (.string r.prod)) (k2 : w.cell? ⟨ad.block, ad.off + 6 + 1, none⟩ = some (.int .u64 r.seq)) (k3 : w.cell? ⟨ad.block, ad.off + 9 + 2, none⟩ = some (.string r.key)) (k4 : w.cell? ⟨ad.block, ad.off + 12 + 2, none⟩ = some (.string r.val))
    (hQ : ∀ w' (u151 u152 u153 u154 u155 u156 u157 u158 u159 u160 u161 u162 u163 u164 u165 u166 u167 u168 u169 u170 u171 u172 u173 : Value) b, Boxed w b r w' → w.heap.size ≤ b → Q .normal ⟨#[u0, u1, u2, u3, .slice (some ad) n c, u5, u6, u7, u8, u9, .pointer (some ⟨b, 0, none⟩), u11, u12, u13, u14, u15, u16, u17, u18, u19, u20, u21, u22, u23, u24, u25, u26, u27, u28, u29, u30, u31, u32, u33, u34, u35, u36, u37, u38, u39, u40, u41, u42, u43, u44, u45, u46, u47, u48, u49, u50, u51, u52, u53, u54, u55, u56, u57, u58, u59, u60, u61, u62, u63, u64, u65, u66, u67, u68, u69, u70, u71, u72, u73, u74, u75, u76, u77, u78, u79, u80, u81, u82, u83, u84, u85, u86, u87, u88, u89, u90, u91, u92, u93, u94, u95, u96, u97, u98, u99, u100, u101, u102, u103, u104, u105, u106, u107, u108, u109, u110, u111, u112, u113, u114, u115, u116, u117, u118, u119, u120, u121, u122, u123, u124, u125, u126, u127, u128, u129, u130, u131, u132, u133, u134, u135, u136, u137, u138, u139, u140, u141, u142, u143, u144, u145, u146, u147, u148, u149, u150, u151, u152, u153, u154, u155, u156, u157, u158, u159, u160, u161, u162, u163, u164, u165, u166, u167, u168, u169, u170, u171, u172, u173, u174, u175, u176, u177, u178, u179, u180, u181, u182, u183, u184, u185, u186, u187, u188, u189, u190, u191, u192, u193, u194, u195, u196], []⟩ w') :
    L3Wp r18 Q ⟨#[u0, u1, u2, u3, .slice (some ad) n c, u5, u6, u7, u8, u9, u10, u11, u12, u13, u14, u15, u16, u17, u18, u19, u20, u21, u22, u23, u24, u25, u26, u27, u28, u29, u30, u31, u32, u33, u34, u35, u36, u37, u38, u39, u40, u41, u42, u43, u44, u45, u46, u47, u48, u49, u50, u51, u52, u53, u54, u55, u56, u57, u58, u59, u60, u61, u62, u63, u64, u65, u66, u67, u68, u69, u70, u71, u72, u73, u74, u75, u76, u77, u78, u79, u80, u81, u82, u83, u84, u85, u86, u87, u88, u89, u90, u91, u92, u93, u94, u95, u96, u97, u98, u99, u100, u101, u102, u103, u104, u105, u106, u107, u108, u109, u110, u111, u112, u113, u114, u115, u116, u117, u118, u119, u120, u121, u122, u123, u124, u125, u126, u127, u128, u129, u130, u131, u132, u133, u134, u135, u136, u137, u138, u139, u140, u141, u142, u143, u144, u145, u146, u147, u148, u149, u150, u151, u152, u153, u154, u155, u156, u157, u158, u159, u160, u161, u162, u163, u164, u165, u166, u167, u168, u169, u170, u171, u172, u173, u174, u175, u176, u177, u178, u179, u180, u181, u182, u183, u184, u185, u186, u187, u188, u189, u190, u191, u192, u193, u194, u195, u196], []⟩ w := by
  have hn4 : (4 : Int) < n := by omega
  have hn3 : (3 : Int) < n := by omega
  have hn2 : (2 : Int) < n := by omega
  have hn1 : (1 : Int) < n := by omega
  have hn0 : (0 : Int) < n := by omega
  have hn00 : 0 < n := by omega
  obtain ⟨fi, p, seq, ky, v⟩ := r
  simp only at k0 k1 k2 k3 k4 h0 h1 h2 h3
  have hw1 : IntKind.i64.wrap fi = fi := IntWalk.i64_in _ (by omega)
  have hw2 : IntKind.i64.wrap seq = seq := IntWalk.i64_in _ (by omega)
  have al : ∀ {x : Addr} {u : Value}, w.cell? x = some u → ∀ o, (w.drew.alloc o).cell? x = some u := fun h o => pw_cell_below (w := w) (below_alloc (below_drew (Below.refl _ _)) _) h
  have d0 : w.drew.cell? ⟨ad.block, ad.off + 1, none⟩ = some (.int .u64 fi) := k0
  have d1 : w.drew.cell? ⟨ad.block, ad.off + 3 + 2, none⟩ = some (.string p) := k1
  have d2 : w.drew.cell? ⟨ad.block, ad.off + 6 + 1, none⟩ = some (.int .u64 seq) := k2
  have d3 : w.drew.cell? ⟨ad.block, ad.off + 9 + 2, none⟩ = some (.string ky) := k3
  have d4 : w.drew.cell? ⟨ad.block, ad.off + 12 + 2, none⟩ = some (.string v) := k4
  have e0 := al k0
  have e1 := al k1
  have e2 := al k2
  have e3 := al k3
  have e4 := al k4
  have HQ := Lib.hid hQ
  clear hQ k0 k1 k2 k3 k4 al
  unfold L3Wp Tryd.f16 r18
  simp only [seqA, seqB, loopB, blockB, Option.getD]
  go_region_held3 (fun w' => w'.cell? ⟨ad.block, ad.off + 1, none⟩ = some (.int .u64 fi) ∧ w'.cell? ⟨ad.block, ad.off + 3 + 2, none⟩ = some (.string p) ∧ w'.cell? ⟨ad.block, ad.off + 6 + 1, none⟩ = some (.int .u64 seq) ∧ w'.cell? ⟨ad.block, ad.off + 9 + 2, none⟩ = some (.string ky) ∧ w'.cell? ⟨ad.block, ad.off + 12 + 2, none⟩ = some (.string v)) (first | exact ⟨d0, d1, d2, d3, d4⟩ | exact ⟨e0 _, e1 _, e2 _, e3 _, e4 _⟩ | go_keep) (first | fail)
  all_goals
    exact HQ.out _ _ _ _ _ _ _ _ _ _ _ _ _ _ _ _ _ _ _ _ _ _ _ _ w.heap.size ⟨heap_alloc_new w _, below_drew (below_alloc (Below.refl _ _) _)⟩ (Nat.le_refl _)
end Go.Proofs.YtdbnanniboiooaaDoor
namespace Go.Proofs.YtdbnanniboiooaaDoor
open Go.RowKit Go.Proofs.Carillon Go.Proofs.YtdbnanniboiooaaDoorW.PrintWords Go.Lib Go.Shelf

/-- On to K; no other way out. -/
def normQ (K : Act → World → Prop) : Exit → Act → World → Prop
  | .normal, a, w => K a w
  | _, _, _ => False
theorem wp_norm {P : Program} {c : Code} {Q : Exit → Act → World → Prop} {a : Act} {w : World} (h : c.wp P (normQ (Q .normal)) a w) : c.wp P Q a w :=
  wp_mono h (fun e a w h => by cases e <;> first | exact h | exact h.elim)
set_option maxRecDepth 100000 in
set_option maxHeartbeats 4000000 in
theorem load_r22 (w : World) (ok : Nat → Prop) (a bm b : Nat) (rv : Value) (T : Tp) (r : Rec) (hT : TopicAt w ok a bm rv T) (hbx : w.heap[b]? = some (.cells #[.int .i64 r.off, .string r.prod, .int .i64 r.seq, .string r.key, .string r.val] 41 (0, 0))) (hl : T.recs.length ≤ 1000000) (Q : Exit → Act → World → Prop) (u0 u1 u2 u3 u4 u5 u6 u8 u9 u11 u12 u13 u14 u15 u16 u17 u18 u19 u20 u21 u22 u23 u24 u25 u26 u27 u28 u29 u30 u31 u32 u33 u34 u35 u36 u37 u38 u39 u40 u41 u42 u43 u44 u45 u46 u47 u48 u49 u50 u51 u52 u53 u54 u55 u56 u57 u58 u59 u60 u61 u62 u63 u64 u65 u66 u67 u68 u69 u70 u71 u72 u73 u74 u75 u76 u77 u78 u79 u80 u81 u82 u83 u84 u85 u86 u87 u88 u89 u90 u91 u92 u93 u94 u95 u96 u97 u98 u99 u100 u101 u102 u103 u104 u105 u106 u107 u108 u109 u110 u111 u112 u113 u114 u115 u116 u117 u118 u119 u120 u121 u122 u123 u124 u125 u126 u127 u128 u129 u130 u131 u132 u133 u134 u135 u136 u137 u138 u139 u140 u141 u142 u143 u144 u145 u146 u147 u148 u149 u150 u151 u152 u153 u154 u155 u156 u157 u158 u159 u160 u161 u162 u163 u164 u165 u166 u167 u168 u169 u170 u171 u172 u173 u174 u175 u176 u177 u178 u179 u180 u181 u182 u183 u184 u185 u186 u187 u188 u189 u190 u191 u192 u193 u194 u195 u196 : Value)
    (hQ : ∀ w' rv' (u186 u187 u188 u189 u190 u191 u192 u193 u194 u195 : Value), TopicAt w' (more ok w) a bm rv' { T with recs := T.recs ++ [r] } → Turned ok w w' → Q .normal ⟨#[u0, u1, u2, u3, u4, u5, u6, .pointer (some ⟨a, 0, none⟩), u8, u9, .pointer (some ⟨b, 0, none⟩), u11, u12, u13, u14, u15, u16, u17, u18, u19, u20, u21, u22, u23, u24, u25, u26, u27, u28, u29, u30, u31, u32, u33, u34, u35, u36, u37, u38, u39, u40, u41, u42, u43, u44, u45, u46, u47, u48, u49, u50, u51, u52, u53, u54, u55, u56, u57, u58, u59, u60, u61, u62, u63, u64, u65, u66, u67, u68, u69, u70, u71, u72, u73, u74, u75, u76, u77, u78, u79, u80, u81, u82, u83, u84, u85, u86, u87, u88, u89, u90, u91, u92, u93, u94, u95, u96, u97, u98, u99, u100, u101, u102, u103, u104, u105, u106, u107, u108, u109, u110, u111, u112, u113, u114, u115, u116, u117, u118, u119, u120, u121, u122, u123, u124, u125, u126, u127, u128, u129, u130, u131, u132, u133, u134, u135, u136, u137, u138, u139, u140, u141, u142, u143, u144, u145, u146, u147, u148, u149, u150, u151, u152, u153, u154, u155, u156, u157, u158, u159, u160, u161, u162, u163, u164, u165, u166, u167, u168, u169, u170, u171, u172, u173, u174, u175, u176, u177, u178, u179, u180, u181, u182, u183, u184, u185, u186, u187, u188, u189, u190, u191, u192, u193, u194, u195, u196], []⟩ w') :
    L3Wp r22 Q ⟨#[u0, u1, u2, u3, u4, u5, u6, .pointer (some ⟨a, 0, none⟩), u8, u9, .pointer (some ⟨b, 0, none⟩), u11, u12, u13, u14, u15, u16, u17, u18, u19, u20, u21, u22, u23, u24, u25, u26, u27, u28, u29, u30, u31, u32, u33, u34, u35, u36, u37, u38, u39, u40, u41, u42, u43, u44, u45, u46, u47, u48, u49, u50, u51, u52, u53, u54, u55, u56, u57, u58, u59, u60, u61, u62, u63, u64, u65, u66, u67, u68, u69, u70, u71, u72, u73, u74, u75, u76, u77, u78, u79, u80, u81, u82, u83, u84, u85, u86, u87, u88, u89, u90, u91, u92, u93, u94, u95, u96, u97, u98, u99, u100, u101, u102, u103, u104, u105, u106, u107, u108, u109, u110, u111, u112, u113, u114, u115, u116, u117, u118, u119, u120, u121, u122, u123, u124, u125, u126, u127, u128, u129, u130, u131, u132, u133, u134, u135, u136, u137, u138, u139, u140, u141, u142, u143, u144, u145, u146, u147, u148, u149, u150, u151, u152, u153, u154, u155, u156, u157, u158, u159, u160, u161, u162, u163, u164, u165, u166, u167, u168, u169, u170, u171, u172, u173, u174, u175, u176, u177, u178, u179, u180, u181, u182, u183, u184, u185, u186, u187, u188, u189, u190, u191, u192, u193, u194, u195, u196], []⟩ w := by
  have g0 := cell_blk (j := 0) hbx rfl
  have g1 := cell_blk (j := 1) hbx rfl
  have g2 := cell_blk (j := 2) hbx rfl
  have g3 := cell_blk (j := 3) hbx rfl
  have g4 := cell_blk (j := 4) hbx rfl
  obtain ⟨fi, p, seq, k, v⟩ := r
  have f4 := hT.c4
  have f4a : ∀ o, (w.alloc o).cell? ⟨a, 4, none⟩ = some rv := fun o => pw_cell_below (below_alloc (Below.refl _ _) _) f4
  have hR4 : RecsAt w.drew (more ok w) rv T.recs := Kd.R_mono (Kd.R_step hT.recs (fun _ _ _ => rfl)) (fun _ h => .inl h)
  have hL : (T.recs.length + 1) * 64 ≤ 140737488355328 := by omega
  have HT4 := Lib.hid hT
  have HR4 := Lib.hid hR4
  have HL := Lib.hid hL
  have HQ := Lib.hid hQ
  clear hT hR4 hL hQ hbx
  unfold L3Wp Tryd.f16 r22
  simp only [seqA, seqB, loopB, blockB, Option.getD]
  refine wp_norm ?_
  go_region_law (refine Kd.R_append_step kRec (w0 := w) (W := w.drew) 0 rfl (.tmp 190) (.tmp 192) 32 41 _ 64 rfl Tryd.underlying32 infoRec rfl (by decide) (by decide) rv T.recs ⟨fi, p, seq, k, v⟩ (Rec.cells ⟨fi, p, seq, k, v⟩) (more ok w) (fun _ => False) rfl rfl rfl (fun _ h => h.elim) (fun k hk => .inr hk) HR4.out (below_drew (Below.refl _ _)) (Nat.zero_le _) HL.out ?_; intro v1 w5 hv1 _ hg1 _; obtain ⟨A1, c1, rfl⟩ := Kd.R_slice hv1; have hgb := TopicAt.grown_blk (HT4.out.move (w1 := w.drew) (fun _ _ _ => rfl)) hg1; have k4 := cell_blk (j := 4) hgb rfl; have k4f := free_blk (j := 4) hgb; clear hgb)
  all_goals
    have hT6 := TopicAt.grown_put (ok1 := more ok w) (HT4.out.move (w1 := w.drew) (fun _ _ _ => rfl)) hg1 (fun _ h => .inl h) hv1
    rw [List.length_append, List.length_singleton] at hT6
    have hk6 : Turned ok w.drew w5 := TopicAt.turned_recs (HT4.out.move (w1 := w.drew) (fun _ _ _ => rfl)) hg1
    have hk7 : Turned ok w w5 := ⟨hk6.os, hk6.tape, hk6.output, hk6.size, hk6.block⟩
    exact HQ.out _ _ _ _ _ _ _ _ _ _ _ _ hT6 (hk7.trans (Turned.of_cell (ok := ok) a 4 _ HT4.out.oka) (fun _ h => .inl h))
end Go.Proofs.YtdbnanniboiooaaDoor
