/- The clock's Open and the top's ticks, each by its contract. -/
import Derived.Test.YtfacmkfcdfaphaaClk2
import Derived.Test.YtfacmkfcdfaphaaSl
namespace Go.Proofs.Ytfacmkfcdfaphaa
open Go.RowKit

def openTo (ring : List Nat) (fr s : Nat) : List Nat := (List.range' (fr + 1) (s - (fr + 1))).filter fun s => ring.getD (s % 4096) 0 < s
theorem openTo_last (ring : List Nat) (fr last : Nat) : openTo ring fr (last + 1) = Stamps.openOf ring fr last := by
  unfold openTo Stamps.openOf
  rw [show last + 1 - (fr + 1) = last - fr by omega]
theorem openTo_succ (ring : List Nat) (fr s : Nat) (h : fr < s) : openTo ring fr (s + 1) = openTo ring fr s ++ if ring.getD (s % 4096) 0 < s then [s] else [] := by
  unfold openTo
  rw [show s + 1 - (fr + 1) = (s - (fr + 1)) + 1 by omega, List.range'_concat, List.filter_append]
  congr 1
  rw [show fr + 1 + 1 * (s - (fr + 1)) = s by omega]
  by_cases hh : ring.getD (s % 4096) 0 < s <;> simp only [List.filter_cons, hh, decide_true, decide_false, List.filter_nil, if_true, if_false] <;> simp
theorem openTo_length (ring : List Nat) (fr s : Nat) : (openTo ring fr s).length ≤ s - (fr + 1) := by
  unfold openTo
  exact Nat.le_trans (List.length_filter_le _ _) (by simp)

def OpenRel (w : World) (B : Nat) (fr last : Nat) (ring : List Nat) (k : Nat) (v i : Value) (wr : World) : Prop :=
  ∃ s : Nat, k = last + 1 - s ∧ fr < s ∧ s ≤ last + 1 ∧ i = .int .u64 s ∧ RowU wr B v (openTo ring fr s) ∧ w.grownBy wr none
def OpenPost (w : World) (B : Nat) (fr last : Nat) (ring : List Nat) (v : Value) (w' : World) : Prop := RowU w' B v (Stamps.openOf ring fr last) ∧ w.grownBy w' none
def OpenEnd (w : World) (B : Nat) (fr last : Nat) (ring : List Nat) (e : Ending) (w' : World) : Prop := ∃ v, e = .returned v ∧ OpenPost w B fr last ring v w'
set_option maxHeartbeats 800000 in
theorem open_any (w : World) (b last fr : Nat) (ring : List Nat) (h : ClkAt w b last fr ring) (hl : last ≤ 4611686018427387904) (hf : fr ≤ last) (hn : last - fr ≤ 4096) :
    Calls Try.prog 12 #[.pointer (some ⟨b, 0, none⟩)] w (OpenEnd w w.heap.size fr last ring) := by
  obtain ⟨i0, hi0, hz0, hz1, hz2⟩ := info_parts info24
  have c0 := h.is_
  have c1 := h.last_
  have c2 := h.fr_
  have hlt := h.lt
  have hw1 : IntKind.u64.wrap ((fr : Int) + 1) = (fr : Int) + 1 := IntWalk.u64_in _ (by omega)
  have HL := Lib.hid hl
  clear hl
  generalize hB : w.heap.size = B at *
  have HB := Lib.hid hB
  clear hB
  go_enter Try.func12, Try.ntmps12
  go_wp2_with fail
  refine (is_any _ _ c0).mono ?_
  rintro e w' ⟨rfl, rfl⟩
  go_wp2_with fail
  refine (load_any _ _ _ c1).mono ?_
  rintro e w' ⟨rfl, rfl⟩
  go_wp2_with fail
  refine (load_any _ _ _ c2).mono ?_
  rintro e w' ⟨rfl, rfl⟩
  go_wp2_with fail
  go_loopg [3, 5] (last - fr) (fun k v i wr => OpenRel w B fr last ring k v i wr)
  case atStart => exact ⟨fr + 1, by omega, by omega, by omega, by go_num, by
    have : openTo ring fr (fr + 1) = [] := by simp [openTo]
    rw [this]; exact World.ownsRow_nil _ _ _ _, World.grownBy.refl w _⟩
  case round =>
    obtain ⟨s, hk, h1, h2, rfl, hown, hg⟩ := hrel
    have hcl : ClkAt wr b last fr ring := h.kept (hg.block b (by rw [HB.out]; exact hlt) (by simp))
    have HK := Lib.hid hk
    have hws : IntKind.u64.wrap ((s : Int) + 1) = (s : Int) + 1 := by have := HL.out; exact IntWalk.u64_in _ (by omega)
    have hBw : B ≤ wr.heap.size := by have := hg.size; rw [HB.out] at this; exact this
    clear hk
    by_cases hlt' : s ≤ last
    · have q1 : (s : Int) ≤ last := by omega
      have c3 := hcl.ring_ (s % 4096) (by omega)
      generalize hx : ring.getD (s % 4096) 0 = x at *
      have HX := Lib.hid hx
      clear hx
      by_cases hxs : x < s
      · have q2 : (x : Int) < s := by omega
        have hlen := openTo_length ring fr s
        go_wp2_with fail
        refine (place_any b (s % 4096) _ (by omega) (by omega) _).mono ?_
        rintro e w' ⟨rfl, rfl⟩
        go_wp2_with fail
        refine (load_any _ _ _ c3).mono ?_
        rintro e w' ⟨rfl, rfl⟩
        have hown' : (wr.alloc (.cells #[.int .u64 s] 24)).ownsRow B 24 1 u3 _ _ := World.ownsRow.alloc hown _
        have HO := Lib.hid hown'
        clear hown'
        go_wp2_with (at_builtin; refine wpList_append_own _ rfl _ _ 29 rfl B 24 i0 (.int .u64 0) 1 8 Try.underlying29 hi0 hz0 hz1 hz2 rfl (by decide) _ _ _ rfl HO.out ⟨wr.heap.size, 0, none⟩ 1 1 [.int .u64 s] rfl rfl (cell_one_new _ _ _) (ints_oneCell .u64 [(s : Int)]) (by unfold maxLen; omega) (by omega) (by simp; omega) ?_; intro v' w1 hown1 hgr _)
        have R1 : RowU w1 B v' (openTo ring fr (s + 1)) := by
          unfold RowU
          rw [openTo_succ ring fr s h1, HX.out, if_pos hxs, List.length_append, U, List.map_append]
          exact hown1
        have R2 : w.grownBy w1 none := ⟨hgr.os.trans hg.os, hgr.tape.trans hg.tape, hgr.output.trans hg.output, by have := hg.size; have := hgr.size; simp at this; omega, fun k hk _ => by
          have hkb : k < B := by rw [← HB.out]; exact hk
          have h1 := hgr.block k (by simp; omega) (by
            intro e
            have := (World.ownsRow.lt HO.out k e.symm).1
            omega)
          rw [h1, Below.heap_alloc _ _ _ (by omega)]
          exact hg.block k hk (by simp)⟩
        clear hown1 hgr
        go_wp2_with fail
        go_roundg (last + 1 - (s + 1))
        case measure => have := HK.out; omega
        case rel => exact ⟨s + 1, rfl, by omega, by omega, by go_num, R1, R2⟩
      · have q2 : (s : Int) ≤ x := by omega
        have R1 : RowU wr B u3 (openTo ring fr (s + 1)) := by
          rw [openTo_succ ring fr s h1, HX.out, if_neg hxs, List.append_nil]
          exact hown
        go_wp2_with fail
        refine (place_any b (s % 4096) _ (by omega) (by omega) _).mono ?_
        rintro e w' ⟨rfl, rfl⟩
        go_wp2_with fail
        refine (load_any _ _ _ c3).mono ?_
        rintro e w' ⟨rfl, rfl⟩
        go_wp2_with fail
        go_roundg (last + 1 - (s + 1))
        case measure => have := HK.out; omega
        case rel => exact ⟨s + 1, rfl, by omega, by omega, by go_num, R1, hg⟩
    · have q1 : (last : Int) < s := by omega
      obtain rfl : s = last + 1 := by omega
      rw [openTo_last] at hown
      go_wp2_with fail
      go_ret
      exact ⟨_, rfl, hown, hg⟩

theorem gb_chain {w w1 w2 : World} {B : Nat} (h : w.grownBy w1 none) (hB : w.heap.size ≤ B) (k : w1.grownBy w2 (some B)) : w.grownBy w2 none :=
  ⟨k.os.trans h.os, k.tape.trans h.tape, k.output.trans h.output, Nat.le_trans h.size k.size, fun i hi _ => (k.block i (Nat.lt_of_lt_of_le hi h.size) (fun e => by injection e; omega)).trans (h.block i hi (by simp))⟩
theorem rep_getD (n i : Nat) : (List.replicate n 0).getD i 0 = 0 := by
  rw [List.getD_eq_getElem?_getD, List.getElem?_replicate]
  split <;> rfl
theorem six_adv {fr' : Nat} (h : Stamps.Adv ((List.replicate 4096 0).set (6 % 4096) 6) 5 fr') : fr' = 6 := by
  obtain ⟨h1, h2, h3⟩ := h
  have hl : 6 % 4096 < (List.replicate 4096 0).length := by rw [List.length_replicate]; omega
  have h7 : ¬ 7 ≤ fr' := fun h7 => by
    have := h2 7 (by omega) h7
    rw [Stamps.getD_set _ _ _ _ hl, if_neg (by omega), rep_getD] at this
    omega
  rcases Nat.lt_or_ge 5 fr' with h | h
  · omega
  · obtain rfl : fr' = 5 := by omega
    exact absurd (by rw [Stamps.getD_set _ _ _ _ hl, if_pos rfl]) h3

def TicksPost (w w' : World) : Prop := w.grownBy w' none
set_option maxHeartbeats 800000 in
theorem ticks_any (w : World) : Calls Try.prog 13 #[] w fun e w' => e = .returned (.bool true) ∧ TicksPost w w' := by
  go_enter Try.func13, Try.ntmps13
  go_wp2_with fail
  refine (new_ok w 5 (by omega)).mono ?_
  rintro e w1 ⟨rfl, h1, g1⟩
  generalize hB : w.heap.size = B at *
  have HB := Lib.hid hB
  have HG := Lib.hid g1
  clear hB g1
  go_wp2_with fail
  refine (take_ok w1 B 5 5 _ h1 (by omega) (by omega) (by omega)).mono ?_
  rintro e w2 ⟨rfl, h2, g2⟩
  have HG2 := Lib.hid (gb_chain HG.out (by rw [HB.out]; omega) g2)
  clear g2
  go_wp2_with fail
  refine (frontier_any w2 B _ _ _ h2).mono ?_
  rintro e w' ⟨rfl, rfl⟩
  go_wp2_with fail
  refine (done_ok w2 B 6 5 6 _ h2 (by omega) (by omega) (fun i => by rw [rep_getD]; omega) (by omega) (by omega) (by rw [rep_getD]; omega)).mono ?_
  rintro e w3 ⟨rfl, fr', h3, h4, g3⟩
  obtain rfl := six_adv h3
  clear h3
  have HG3 := Lib.hid (gb_chain HG2.out (by rw [HB.out]; omega) g3)
  clear g3
  go_wp2_with fail
  refine (frontier_any w3 B _ _ _ h4).mono ?_
  rintro e w' ⟨rfl, rfl⟩
  go_wp2_with fail
  go_ret
  exact ⟨rfl, HG3.out⟩
end Go.Proofs.Ytfacmkfcdfaphaa
