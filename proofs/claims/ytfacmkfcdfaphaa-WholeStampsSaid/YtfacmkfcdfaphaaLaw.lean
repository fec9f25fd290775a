/- The walk of WholeStamps: called with any number, byte and list of deeds that can be read, it returns true and leaves all that was there as it was. Its conditions: the numbers fit their kinds, the list can be read. -/
import Derived.Test.YtfacmkfcdfaphaaOpen
import Derived.Deep.DeepCutAuto
namespace Go.Proofs.Ytfacmkfcdfaphaa
open Go.RowKit

def firstOf (x y : Nat) : Nat := if y % 2 = 1 then 4611686018427387904 - y / 2 % 6 else x
theorem firstOf_le (x y : Nat) (hx : x < 4294967296) : firstOf x y ≤ 4611686018427387904 := by unfold firstOf; split <;> omega
/-- The deeds: what is read of the argument. -/
def Touches (w : World) (A : Option Addr) (n : Nat) : Prop :=
  ∀ j, j < n → ∃ g o k a b m : Nat, A = some ⟨g, o, none⟩ ∧ k < 256 ∧ a < 256 ∧ b < 256 ∧ m < 256 ∧ w.cell? ⟨g, o + j * 4, none⟩ = some (.int .u8 k) ∧ w.cell? ⟨g, o + j * 4 + 1, none⟩ = some (.int .u8 a) ∧
    w.cell? ⟨g, o + j * 4 + 2, none⟩ = some (.int .u8 b) ∧ w.cell? ⟨g, o + j * 4 + 3, none⟩ = some (.int .u8 m)
def LawRel (w : World) (B first n k : Nat) (l10 l11 l51 : Value) (wr : World) : Prop :=
  ∃ (j last fr : Nat) (ring opn : List Nat), k = n - j ∧ j ≤ n ∧ l51 = .int .i64 j ∧ l10 = .int .u64 last ∧ last ≤ 4611686018427387904 ∧ last ≤ first + j ∧ Stamps.Inv first last fr ring opn ∧ ClkAt wr B last fr ring ∧ RowU wr B l11 opn ∧ w.grownBy wr none
theorem sorted_len : ∀ (l : List Nat) (lo hi : Nat), l.Pairwise (· < ·) → (∀ x ∈ l, lo < x) → (∀ x ∈ l, x ≤ hi) → l.length ≤ hi - lo
  | [], _, _, _, _, _ => by simp
  | x :: l, lo, hi, hp, h1, h2 => by
    rw [List.pairwise_cons] at hp
    have := sorted_len l x hi hp.2 hp.1 (fun y hy => h2 y (by simp [hy]))
    have a1 := h1 x (by simp)
    have a2 := h2 x (by simp)
    simp only [List.length_cons]
    omega
theorem inv_len {first last fr : Nat} {ring opn : List Nat} (h : Stamps.Inv first last fr ring opn) : opn.length ≤ 100 := by
  have := sorted_len opn first last h.sorted h.lo h.hi
  have := h.near
  omega
def MidRel (w : World) (B first j : Nat) (l10 l11 : Value) (wr : World) : Prop :=
  ∃ (last fr : Nat) (ring opn : List Nat), l10 = .int .u64 last ∧ last ≤ 4611686018427387904 ∧ last ≤ first + (j + 1) ∧ Stamps.Inv first last fr ring opn ∧ ClkAt wr B last fr ring ∧ RowU wr B l11 opn ∧ w.grownBy wr none
theorem row_ne {w : World} {B0 b last fr : Nat} {v : Value} {xs ring : List Nat} (h : RowU w B0 v xs) (k : ClkAt w b last fr ring) : v.ownBlock ≠ some b := by
  obtain ⟨cs, hh, _⟩ := k
  rcases h.2 with ⟨rfl, _⟩ | ⟨g, cap, cur, rfl, _, hg, _⟩
  · simp [Value.ownBlock]
  · intro e
    have : g = b := by simpa [Value.ownBlock] using e
    subst this
    rw [hh] at hg
    injection hg with hg
    injection hg with _ ht
    cases ht
theorem take_end' (w : World) (b last fr : Nat) (ring : List Nat) (h : ClkAt w b last fr ring) (hl : last = 4611686018427387904) :
    Calls Try.prog 5 #[.pointer (some ⟨b, 0, none⟩)] w fun e w' => e = .returned (.tuple #[.int .u64 0, .int .i64 4]) ∧ w = w' := by
  subst hl
  exact take_end w b fr ring h
set_option maxHeartbeats 1600000 in
set_option maxRecDepth 100000 in
theorem law_any (w : World) (x y len cap n : Nat) (A : Option Addr) (hx : x < 4294967296) (hy : y < 256) (hcap : len ≤ cap) (hcm : cap ≤ 9223372036854775807) (hn : n = min len 100) (hT : Touches w A len) :
    Calls Try.prog 3 #[.int .u32 x, .int .u8 y, .slice A len cap] w fun e w' => e = .returned (.bool true) ∧ w.grownBy w' none := by
  have HT := Lib.hid hT
  have HNN := Lib.hid hn
  clear hT hn
  go_enter Try.func3, Try.ntmps3
  go_upto_if 27 with fail
  go_cut [7] (fun s7 wc => s7 = .int .u64 (firstOf x y) ∧ w = wc)
  case first =>
    by_cases hy2 : y % 2 = 1
    · have q : ((y : Int) % 2 == 1) = true := by simp; omega
      have e1 : ((firstOf x y : Nat) : Int) = 4611686018427387904 - (y : Int) / 2 % 6 := by rw [firstOf, if_pos hy2]; omega
      have E1 := Lib.hid e1
      clear e1 hy2
      go_wp2_with fail
      go_meet
      exact ⟨by rw [E1.out], rfl⟩
    · have q : ((y : Int) % 2 == 1) = false := by simp; omega
      have e1 : ((firstOf x y : Nat) : Int) = x := by rw [firstOf, if_neg hy2]
      have E1 := Lib.hid e1
      clear e1 hy2
      go_wp2_with fail
      go_meet
      exact ⟨by rw [E1.out], rfl⟩
  case rest =>
    obtain ⟨rfl, rfl⟩ := hcut
    generalize hF : firstOf x y = first at *
    have hfl := firstOf_le x y hx
    rw [hF] at hfl
    have HFL := Lib.hid hfl
    clear hfl hF
    go_wp2_with fail
    refine (new_ok w first HFL.out).mono ?_
    rintro e w1 ⟨rfl, h1, g1⟩
    generalize hB : w.heap.size = B at *
    have HB := Lib.hid hB
    have HG := Lib.hid g1
    clear hB g1
    have hmin : (if (100 : Int) < len then (100 : Int) else len) = n := by have := HNN.out; split <;> omega
    go_wp2_with fail
    have hnl : n ≤ len := by have := HNN.out; omega
    have hn100 : n ≤ 100 := by have := HNN.out; omega
    clear hmin
    go_loopg [10, 11, 51] n (fun k l10 l11 l51 wr => LawRel w B first n k l10 l11 l51 wr)
    case atStart => exact ⟨0, first, first, _, [], by omega, by omega, rfl, rfl, HFL.out, by omega, Stamps.Inv.start first, h1, World.ownsRow_nil _ _ _ _, HG.out⟩
    case round =>
      obtain ⟨j, last, fr, ring, opn, hk, hj, rfl, rfl, hmx, hl, hinv, hclk, hrow, hg⟩ := hrel
      have HK := Lib.hid hk
      have HMX := Lib.hid hmx
      have HI := Lib.hid hinv
      have HGr := Lib.hid hg
      have HLF := Lib.hid hl
      have hBr : B ≤ wr.heap.size := by have := hg.size; rw [HB.out] at this; exact this
      clear hk hmx hinv hg hl
      by_cases hlt : j < n
      · obtain ⟨g, o, k, a, b, m, hA, hk, ha, hb, hm, c0, c1, c2, c3⟩ := HT.out j (by omega)
        have hblk : g < w.heap.size := World.block_lt_of_cell? w _ c0
        have hgk := fun i => World.cell?_of_block (w := w) (w' := wr) (a := ⟨g, i, none⟩) (HGr.out.block g hblk (by simp))
        rw [← hgk] at c0 c1 c2 c3
        clear hgk hblk
        subst hA
        go_upto_if 58 with fail
        have hD : ∀ i u, (#[Value.int .u8 k, Value.int .u8 a, Value.int .u8 b, Value.int .u8 m] : Array Value)[i]? = some u → (wr.alloc (.cells #[.int .u8 k, .int .u8 a, .int .u8 b, .int .u8 m] 31)).cell? ⟨wr.heap.size, i, none⟩ = some u :=
          fun i u hu => by rw [cell_of_row _ _ i _ 31 (0, 0) (heap_alloc_new wr _)]; exact hu
        have d1 := hD 1 _ rfl
        have d2 := hD 2 _ rfl
        have d3 := hD 3 _ rfl
        have hg0 := World.grownBy_alloc wr (.cells #[.int .u8 k, .int .u8 a, .int .u8 b, .int .u8 m] 31) none
        have hclk1 := hclk.kept (hg0.block B hclk.lt (by simp))
        have hrow1 := hrow.kept hg0 (by cases u11.ownBlock <;> simp)
        have HG1 := Lib.hid (HGr.out.trans hg0)
        have hs1 := hg0.size
        have hBr1 : B ≤ (wr.alloc (.cells #[.int .u8 k, .int .u8 a, .int .u8 b, .int .u8 m] 31)).heap.size := by omega
        clear hD c0 c1 c2 c3 hclk hrow hg0 hs1 hBr
        generalize wr.alloc (.cells #[.int .u8 k, .int .u8 a, .int .u8 b, .int .u8 m] 31) = W1 at *
        generalize wr.heap.size = D at *
        go_cut [10, 11] (fun l10 l11 wc => MidRel w B first j l10 l11 wc)
        case first =>
          by_cases hk2 : k % 2 = 0
          · have q1 : ((k : Int) % 2 == 0) = true := by simp; omega
            have hw1 : IntKind.u64.wrap ((last : Int) + 1) = (last : Int) + 1 := by have := HMX.out; exact IntWalk.u64_in _ (by omega)
            clear hk2
            -- BEGIN even
            by_cases hm : last = 4611686018427387904
            · have q2 : ((last : Int) == 4611686018427387904) = true := by simp; omega
              have HM := Lib.hid hm
              clear hm
              go_wp2_with fail
              refine (take_end' W1 B last fr ring hclk1 HM.out).mono ?_
              rintro e w' ⟨rfl, rfl⟩
              go_wp2_with fail
              go_meet
              exact ⟨last, fr, ring, opn, rfl, HMX.out, by have := HLF.out; omega, HI.out, hclk1, hrow1, HG1.out⟩
            · have q2 : ((last : Int) == 4611686018427387904) = false := by simp; omega
              have HM := Lib.hid hm
              clear hm
              have hlo := inv_len HI.out
              have HO := Lib.hid (World.ownsRow.alloc hrow1 (.cells #[.int .u64 ((last : Int) + 1)] 24))
              obtain ⟨i0, hi0, hz0, hz1, hz2⟩ := info_parts info24
              go_wp2_with (at_builtin; refine wpList_append_own _ rfl _ _ 29 rfl B 24 i0 (.int .u64 0) 1 8 Try.underlying29 hi0 hz0 hz1 hz2 rfl (by decide) _ _ _ rfl HO.out ⟨W1.heap.size, 0, none⟩ 1 1 [.int .u64 ((last : Int) + 1)] rfl rfl (cell_one_new _ _ _) (ints_oneCell .u64 [(last : Int) + 1]) (by unfold maxLen; omega) (by omega) (by simp; omega) ?_; intro v' w2 hown1 hgr _)
              have hne := row_ne hrow1 hclk1
              have hclk2 : ClkAt w2 B last fr ring := hclk1.kept ((hgr.block B (by have := hclk1.lt; simp; omega) (fun e => hne e.symm)).trans (Below.heap_alloc _ _ _ hclk1.lt))
              have hrow2 : RowU w2 B v' (opn ++ [last + 1]) := by
                unfold RowU
                rw [List.length_append, U, List.map_append]
                exact hown1
              have hb1 := World.ownsRow.lt HO.out
              have HG2 := Lib.hid (show w.grownBy w2 none from ⟨hgr.os.trans HG1.out.os, hgr.tape.trans HG1.out.tape, hgr.output.trans HG1.out.output, by have := HG1.out.size; have := hgr.size; simp at this; omega, fun i hi _ => by
                have h2 := HG1.out.size
                rw [hgr.block i (by simp; omega) (fun e => by have := (hb1 i e.symm).1; have := HB.out; omega), Below.heap_alloc _ _ _ (by omega)]
                exact HG1.out.block i hi (by simp)⟩)
              clear hown1 hgr hb1 hne
              have hfl := HI.out.frlo
              have hnear := HI.out.near
              refine (take_ok w2 B last fr ring hclk2 (by have := HMX.out; have := HM.out; omega) hfl.2 (by omega)).mono ?_
              rintro e w3 ⟨rfl, hclk3, hg3⟩
              have hrow3 := hrow2.kept hg3 (.inr (row_ne hrow2 hclk2))
              have HG3 := Lib.hid (gb_chain HG2.out (by rw [HB.out]; omega) hg3)
              clear hg3 hclk2 hrow2 hfl hnear
              go_wp2_with fail
              go_meet
              exact ⟨last + 1, fr, ring, opn ++ [last + 1], rfl, by have := HMX.out; have := HM.out; omega, by have := HLF.out; omega, HI.out.take (by have := HLF.out; omega), hclk3, hrow3, HG3.out⟩
            -- END even
          · have q1 : ((k : Int) % 2 == 0) = false := by simp; omega
            clear hk2
            -- BEGIN odd
            have hws : IntKind.u64.wrap ((first : Int) + (a : Int) % 64) = (first : Int) + (a : Int) % 64 := by have := HFL.out; exact IntWalk.u64_in _ (by omega)
            have hlo := inv_len HI.out
            obtain ⟨A', c', rfl, hcc, hcm', hcell⟩ := hrow1.shape
            have HC := Lib.hid hcell
            clear hcell hcc hcm'
            go_upto_region 22 with fail
            go_cut [96] (fun s96 wc => (s96 = .bool true ∧ 0 < opn.length ∨ s96 = .bool false) ∧ W1 = wc)
            case first =>
              by_cases hl0 : 0 < opn.length
              · have q2 : decide ((0 : Int) < (opn.length : Int)) = true := decide_eq_true (by omega)
                have q3 : (0 : Int) < (opn.length : Int) := by omega
                by_cases hm0 : 0 < m % 4
                · have q4 : (0 : Int) < (m : Int) % 4 := by omega
                  have HL0 := Lib.hid hl0
                  clear hl0 hm0
                  go_wp2_with fail
                  go_meet
                  exact ⟨.inl ⟨rfl, HL0.out⟩, rfl⟩
                · have q4 : ¬ (0 : Int) < (m : Int) % 4 := by omega
                  clear hl0 hm0
                  go_wp2_with fail
                  go_meet
                  exact ⟨.inr rfl, rfl⟩
              · have q2 : decide ((0 : Int) < (opn.length : Int)) = false := decide_eq_false (by omega)
                have q3 : (opn.length : Int) ≤ 0 := by omega
                clear hl0
                go_wp2_with fail
                go_meet
                exact ⟨.inr rfl, rfl⟩
            case rest =>
              obtain ⟨h96, rfl⟩ := hcut
              have H96 := Lib.hid h96
              clear h96
              go_upto_if 96 with fail
              go_cut [18] (fun s18 wc => (∃ s : Nat, s18 = .int .u64 s ∧ first ≤ s) ∧ W1 = wc)
              case first =>
                rcases H96.out with ⟨rfl, hP⟩ | rfl
                · obtain ⟨g', rfl, c4⟩ := HC.out (b % opn.length) (Nat.mod_lt _ hP)
                  have q3 : (0 : Int) < (opn.length : Int) := by omega
                  have q4 : (0 : Int) ≤ (b : Int) % (opn.length : Int) := Int.emod_nonneg _ (by omega)
                  have q5 : (b : Int) % (opn.length : Int) < (opn.length : Int) := Int.emod_lt_of_pos _ q3
                  have hz : first ≤ opn.getD (b % opn.length) 0 := by
                    have hlt := Nat.mod_lt b hP
                    have := HI.out.lo (opn[b % opn.length]) (List.getElem_mem hlt)
                    simp only [List.getD_eq_getElem?_getD, List.getElem?_eq_getElem hlt, Option.getD_some]
                    omega
                  generalize opn.getD (b % opn.length) 0 = z at *
                  clear hP H96
                  go_wp2_with fail
                  go_meet
                  exact ⟨⟨z, rfl, hz⟩, rfl⟩
                · clear H96
                  go_wp2_with fail
                  go_meet
                  exact ⟨⟨first + a % 64, by go_num, by omega⟩, rfl⟩
              case rest =>
                obtain ⟨⟨s, rfl, hs⟩, rfl⟩ := hcut
                clear H96 hws
                by_cases hin : s ∈ opn
                · have hi : opn.idxOf s < opn.length := List.idxOf_lt_length_of_mem hin
                  have hidx : idx opn s = (opn.idxOf s : Nat) := by rw [idx, if_pos hin]
                  have herase : opn.eraseIdx (opn.idxOf s) = opn.erase s := (List.erase_eq_eraseIdx_of_idxOf rfl).symm
                  have HE := Lib.hid herase
                  have HX := Lib.hid hidx
                  have HIN := Lib.hid hin
                  clear hidx herase hin
                  obtain ⟨g', rfl, c4⟩ := HC.out _ hi
                  clear c4
                  go_wp2_with fail
                  refine (index_any W1 B _ opn s hrow1).mono ?_
                  rintro e w' ⟨rfl, rfl⟩
                  rw [HX.out]
                  generalize opn.idxOf s = ix at *
                  go_wp2_with fail
                  refine (delete_any W1 B g' c' ix opn hrow1 hi).mono ?_
                  rintro e w2 ⟨rfl, hrow2, hg2⟩
                  rw [HE.out] at hrow2
                  have hne := row_ne hrow1 hclk1
                  have hne' : g' ≠ B := fun e => hne (by rw [e]; rfl)
                  have hclk2 := hclk1.kept (hg2.block B hclk1.lt (fun e => by injection e with e; exact hne' e.symm))
                  have hgB := (RowU.block hrow1).1
                  have HG2 := Lib.hid (gb_chain HG1.out (by rw [HB.out]; exact hgB) hg2)
                  clear hg2 hne hne' hgB
                  have hgr := HI.out.granted HIN.out
                  have HGT := Lib.hid hgr
                  clear hgr
                  go_wp2_with fail
                  refine (done_ok w2 B last fr s ring hclk2 HMX.out HI.out.frlo.2 HI.out.bound HGT.out.1 HGT.out.2.1 HGT.out.2.2).mono ?_
                  rintro e w3 ⟨rfl, fr', hadv, hclk3, hg3⟩
                  have hrow3 := hrow2.kept hg3 (.inr (row_ne hrow2 hclk2))
                  have HG3 := Lib.hid (gb_chain HG2.out (by rw [HB.out]; omega) hg3)
                  have HI3 := Lib.hid (HI.out.done HIN.out hadv)
                  clear hg3 hclk2 hrow2 hadv
                  go_wp2_with fail
                  go_meet
                  exact ⟨last, fr', _, opn.erase s, rfl, HMX.out, by have := HLF.out; omega, HI3.out, hclk3, hrow3, HG3.out⟩
                · have hidx : idx opn s = -1 := by rw [idx, if_neg hin]
                  have HX := Lib.hid hidx
                  have HIN := Lib.hid hin
                  clear hidx hin
                  go_wp2_with fail
                  refine (index_any W1 B _ opn s hrow1).mono ?_
                  rintro e w' ⟨rfl, rfl⟩
                  rw [HX.out]
                  go_wp2_with fail
                  refine (done_no W1 B last fr s ring hclk1 (HI.out.refused hs HIN.out)).mono ?_
                  rintro e w' ⟨rfl, rfl⟩
                  go_wp2_with fail
                  go_meet
                  exact ⟨last, fr, ring, opn, rfl, HMX.out, by have := HLF.out; omega, HI.out, hclk1, hrow1, HG1.out⟩
                -- END odd
        case rest =>
          clear hclk1 hrow1 HI HMX HLF HG1 hBr1
          obtain ⟨last, fr, ring, opn, rfl, hmx, hlf, hinv, hclk1, hrow1, hg1⟩ := hcut
          have HMX := Lib.hid hmx
          have HLF := Lib.hid hlf
          have HI := Lib.hid hinv
          have HG1 := Lib.hid hg1
          have HFr := Lib.hid hinv.front
          have HOp := Lib.hid hinv.opened
          clear hmx hlf hinv hg1
          obtain ⟨A', c', rfl, hcc, hcm', hcell⟩ := hrow1.shape
          have HC := Lib.hid hcell
          clear hcell hcc hcm'
          go_upto_if 124 with fail
          go_cut [21] (fun s21 wx => s21 = .int .u64 fr ∧ wc = wx)
          case first =>
            by_cases hl0 : 0 < opn.length
            · have q3 : (0 : Int) < (opn.length : Int) := by omega
              have q2 : decide ((0 : Int) < (opn.length : Int)) = true := decide_eq_true q3
              obtain ⟨g', rfl, c4⟩ := HC.out 0 hl0
              have hfr : (fr : Int) = (opn.getD 0 0 : Nat) - 1 ∧ 1 ≤ opn.getD 0 0 := by
                have h1 := HFr.out
                cases opn with
                | nil => simp at hl0
                | cons y l =>
                  have h2 := HI.out.lo y (by simp)
                  simp at h1 ⊢
                  omega
              have hzl : opn.getD 0 0 ≤ 4611686018427387904 := by
                have h3 := HMX.out
                cases opn with
                | nil => simp at hl0
                | cons y l =>
                  have h2 := HI.out.hi y (by simp)
                  simp
                  omega
              generalize opn.getD 0 0 = z at *
              have hwz : IntKind.u64.wrap ((z : Int) - 1) = (z : Int) - 1 := IntWalk.u64_in _ (by omega)
              have HF2 := Lib.hid hfr
              clear hfr hzl hl0
              go_wp2_with fail
              go_meet
              exact ⟨by rw [HF2.out.1], rfl⟩
            · have q3 : (opn.length : Int) ≤ 0 := by omega
              have q2 : decide ((0 : Int) < (opn.length : Int)) = false := decide_eq_false (by omega)
              have hfr : fr = last := by
                have h1 := HFr.out
                rw [List.length_pos_iff] at hl0
                rw [if_pos (by simpa using hl0)] at h1
                exact h1
              have HF2 := Lib.hid hfr
              clear hfr hl0
              go_wp2_with fail
              go_meet
              exact ⟨by rw [HF2.out], rfl⟩
          case rest =>
            obtain ⟨rfl, rfl⟩ := hcut
            have hfl := HI.out.frlo
            have hnear := HI.out.near
            have HFL2 := Lib.hid hfl
            have HNE := Lib.hid hnear
            clear hfl hnear
            go_wp2_with fail
            refine (frontier_any wc B _ _ _ hclk1).mono ?_
            rintro e w' ⟨rfl, rfl⟩
            go_wp2_with fail
            refine (last_any wc B _ _ _ hclk1).mono ?_
            rintro e w' ⟨rfl, rfl⟩
            go_wp2_with fail
            refine (open_any wc B last fr ring hclk1 HMX.out HFL2.out.2 (by have := HFL2.out; have := HNE.out; omega)).mono ?_
            rintro e w2 ⟨v2, rfl, hrow2, hg2⟩
            rw [HOp.out] at hrow2
            have hrow1' := hrow1.kept hg2 (by simp [Value.ownBlock]; cases A' <;> simp)
            have HG2 := Lib.hid (HG1.out.trans hg2)
            have hclk2 := hclk1.kept (hg2.block B hclk1.lt (by simp))
            clear hg2
            go_wp2_with fail
            refine (equal_any w2 _ _ _ _ opn opn hrow2 hrow1').mono ?_
            rintro e w3 ⟨rfl, hg3⟩
            rw [decide_eq_true rfl]
            have HG3 := Lib.hid (HG2.out.trans hg3)
            have hclk3 := hclk2.kept (hg3.block B hclk2.lt (by simp))
            have hrow3 := hrow1'.kept hg3 (by simp [Value.ownBlock]; cases A' <;> simp)
            clear hg3 hclk2 hrow1' hrow2 hclk1 hrow1
            go_wp2_with fail
            go_roundg (n - (j + 1))
            case measure => have := HK.out; omega
            case rel => exact ⟨j + 1, last, fr, ring, opn, rfl, by omega, by go_num, rfl, HMX.out, HLF.out, HI.out, hclk3, hrow3, HG3.out⟩
      · have q : (n : Int) ≤ j := by omega
        go_wp2_with fail
        refine (new_err wr 4611686018427387905 (by omega)).mono ?_
        rintro e w' ⟨rfl, rfl⟩
        go_wp2_with fail
        refine (ticks_any wr).mono ?_
        rintro e w' ⟨rfl, ht⟩
        have P := HGr.out.trans ht
        clear ht
        go_wp2_with fail
        go_ret
        exact ⟨rfl, P⟩
end Go.Proofs.Ytfacmkfcdfaphaa
