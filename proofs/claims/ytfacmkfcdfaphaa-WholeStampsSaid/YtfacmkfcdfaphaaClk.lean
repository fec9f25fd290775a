/- The clock's functions (New, Take, Done, Frontier, Last, Open and what they call), each by its contract: what it answers, and what the clock holds behind it. No conditions beyond those that each theorem states. -/
import Derived.Test.YtfacmkfcdfaphaaChecked
import Derived.WalkKit
import Derived.WalkLawsBesides
import Derived.WalkSpells
import Derived.Laws.LoneSync
import Derived.BigQuiet
import Derived.Deep.QuietTactic
import Derived.Deep.LoopGhost
import Derived.Lib.Hide
import Derived.Test.YtfacmkfcdfaphaaPure
namespace Go.Proofs.Ytfacmkfcdfaphaa
open Go.RowKit

/-! ### The zero value of a clock -/
def tree (f : Nat → Value) : Nat → Nat → Nat → List Value
  | 0, _, _ => []
  | k + 1, lo, hi => if hi - lo ≤ 64 then (List.range' lo (hi - lo)).map f else List.append (tree f k lo ((lo + hi) / 2)) (tree f k ((lo + hi) / 2) hi)
theorem tree_eq (f : Nat → Value) (k : Nat) : ∀ lo hi, hi - lo ≤ 64 * 2 ^ k → lo ≤ hi → tree f (k + 1) lo hi = (List.range' lo (hi - lo)).map f := by
  induction k with
  | zero => intro lo hi h _; unfold tree; rw [if_pos (by omega)]
  | succ k ih =>
    intro lo hi h hle
    unfold tree
    split
    · rfl
    · rw [ih _ _ (by rw [Nat.pow_succ] at h; omega) (by omega), ih _ _ (by rw [Nat.pow_succ] at h; omega) (by omega)]
      show List.map f _ ++ List.map f _ = _
      rw [← List.map_append]
      congr 1
      have := List.range'_append (s := lo) (m := (lo + hi) / 2 - lo) (n := hi - (lo + hi) / 2) (step := 1)
      rw [show lo + 1 * ((lo + hi) / 2 - lo) = (lo + hi) / 2 by omega] at this
      rw [this]; congr 1; omega
def zf (i : Nat) : Value := if i = 0 then .bool false else .int .u64 0
theorem zero49 : Try.t49.zero = some (.agg (tree zf 8 0 4099).toArray) := by kernel_rfl
theorem info49 : Try.prog.info? 49 = some Try.t49 := by kernel_rfl
def Z49 : Array Value := (tree zf 8 0 4099).toArray
theorem clk0_size : (Z49.setIfInBounds 0 (.bool true)).size = 4099 := by
  unfold Z49
  rw [tree_eq zf 7 0 4099 (by omega) (by omega)]
  simp only [Array.size_setIfInBounds, List.size_toArray, List.length_map, List.length_range']
theorem clk0_at (i : Nat) (h : i < 4099) : (Z49.setIfInBounds 0 (.bool true))[i]? = some (if i = 0 then .bool true else .int .u64 0) := by
  unfold Z49
  rw [tree_eq zf 7 0 4099 (by omega) (by omega), Array.getElem?_setIfInBounds]
  by_cases h0 : i = 0
  · subst h0
    simp only [if_true, List.size_toArray, List.length_map, List.length_range']
    rfl
  · rw [if_neg (by omega), if_neg h0, List.getElem?_toArray, List.getElem?_map, List.getElem?_range' (by omega)]
    simp [zf]; omega
theorem zv49 (w : World) : (zeroValue 49).run Try.prog w = .ok (.agg Z49) w := by
  simp [zeroValue, typeInfo, go_sem, info49, zero49, Z49]
theorem Z49_ne : ¬ Z49 = #[] := by
  intro h
  have := congrArg Array.size h
  unfold Z49 at this
  rw [tree_eq zf 7 0 4099 (by omega) (by omega)] at this
  rw [List.size_toArray, List.length_map, List.length_range'] at this
  cases this

/-! ### A clock in memory -/
def ClkAt (w : World) (b : Nat) (last fr : Nat) (ring : List Nat) : Prop :=
  ∃ cs : Array Value, w.heap[b]? = some (.cells cs 49 (0, 0)) ∧ cs.size = 4099 ∧ cs[0]? = some (.bool true) ∧ cs[1]? = some (.int .u64 last) ∧ cs[2]? = some (.int .u64 fr) ∧ ring.length = 4096 ∧
    ∀ i, i < 4096 → cs[3 + i]? = some (.int .u64 (ring.getD i 0))

theorem load_any (a : Addr) (v : Int) (w : World) (hc : w.cell? a = some (.int .u64 v)) :
    Calls Try.prog 16 #[.pointer (some a)] w fun e w' => e = .returned (.int .u64 v) ∧ w = w' := by
  have hl := run_call_load (P := Try.prog) Try.func21 (by kernel_rfl) (by kernel_rfl) (by kernel_rfl) .u64 (by kernel_rfl) hc
  go_enter Try.func16, Try.ntmps16
  go_wp2
  go_ret
  exact ⟨rfl, rfl⟩
theorem store_any (a : Addr) (u : Value) (v : Int) (w : World) (hc : w.cell? a = some u) (hf : w.frozen? a = false) :
    Calls Try.prog 14 #[.pointer (some a), .int .u64 v] w fun e w' => e = .returned (.tuple #[]) ∧ w.setCell a (.int .u64 v) = w' := by
  have hl := run_call_store (P := Try.prog) Try.func20 (by kernel_rfl) (by kernel_rfl) (by kernel_rfl) (by kernel_rfl) (k := .u64) (y := v) hc hf
  go_enter Try.func14, Try.ntmps14
  go_wp2
  go_end0
  exact ⟨rfl, rfl⟩
theorem cas_hit (a : Addr) (v y : Int) (w : World) (hc : w.cell? a = some (.int .u64 v)) (hf : w.frozen? a = false) :
    Calls Try.prog 17 #[.pointer (some a), .int .u64 v, .int .u64 y] w fun e w' => e = .returned (.bool true) ∧ w.setCell a (.int .u64 y) = w' := by
  have hl := run_call_cas_hit (P := Try.prog) Try.func22 (by kernel_rfl) (by kernel_rfl) (by kernel_rfl) .u64 (by kernel_rfl) (y := y) hc hf
  go_enter Try.func17, Try.ntmps17
  go_wp2
  go_ret
  exact ⟨rfl, rfl⟩
theorem is_any (b : Nat) (w : World) (hc : w.cell? ⟨b, 0, none⟩ = some (.bool true)) :
    Calls Try.prog 15 #[.pointer (some ⟨b, 0, none⟩)] w fun e w' => e = .returned (.bool true) ∧ w = w' := by
  go_enter Try.func15, Try.ntmps15
  go_wp2
  go_ret
  exact ⟨rfl, rfl⟩
theorem place_any (b n : Nat) (s : Int) (h0 : 0 ≤ s) (hn : s % 4096 = n) (w : World) :
    Calls Try.prog 18 #[.pointer (some ⟨b, 0, none⟩), .int .u64 s] w fun e w' => e = .returned (.pointer (some ⟨b, 3 + n, none⟩)) ∧ w = w' := by
  have hb : (n : Int) < 4096 := by omega
  have hb0 : (0 : Int) ≤ n := by omega
  go_enter Try.func18, Try.ntmps18
  go_wp2
  go_ret
  exact ⟨rfl, rfl⟩

section
variable {w : World} {b last fr : Nat} {ring : List Nat}
theorem ClkAt.lt (h : ClkAt w b last fr ring) : b < w.heap.size := by
  obtain ⟨cs, h, _⟩ := h
  exact lt_of_block h
theorem ClkAt.is_ (h : ClkAt w b last fr ring) : w.cell? ⟨b, 0, none⟩ = some (.bool true) := by
  obtain ⟨cs, h, _, h0, _⟩ := h
  rw [cell_of_row w b 0 cs 49 (0, 0) h]; exact h0
theorem ClkAt.last_ (h : ClkAt w b last fr ring) : w.cell? ⟨b, 1, none⟩ = some (.int .u64 last) := by
  obtain ⟨cs, h, _, _, h1, _⟩ := h
  rw [cell_of_row w b 1 cs 49 (0, 0) h]; exact h1
theorem ClkAt.fr_ (h : ClkAt w b last fr ring) : w.cell? ⟨b, 2, none⟩ = some (.int .u64 fr) := by
  obtain ⟨cs, h, _, _, _, h2, _⟩ := h
  rw [cell_of_row w b 2 cs 49 (0, 0) h]; exact h2
theorem ClkAt.ring_ (h : ClkAt w b last fr ring) (i : Nat) (hi : i < 4096) : w.cell? ⟨b, 3 + i, none⟩ = some (.int .u64 (ring.getD i 0)) := by
  obtain ⟨cs, h, _, _, _, _, _, h3⟩ := h
  rw [cell_of_row w b (3 + i) cs 49 (0, 0) h]; exact h3 i hi
theorem ClkAt.free (h : ClkAt w b last fr ring) (i : Nat) : w.frozen? ⟨b, i, none⟩ = false := by
  obtain ⟨cs, h, _⟩ := h
  exact frozen_of_row w b i cs 49 h
theorem ClkAt.len (h : ClkAt w b last fr ring) : ring.length = 4096 := by
  obtain ⟨cs, h, _, _, _, _, h3, _⟩ := h
  exact h3
theorem ClkAt.kept {w' : World} (h : ClkAt w b last fr ring) (hk : w'.heap[b]? = w.heap[b]?) : ClkAt w' b last fr ring := by
  obtain ⟨cs, h, r⟩ := h
  exact ⟨cs, hk.trans h, r⟩
theorem ClkAt.setLast (h : ClkAt w b last fr ring) (n : Nat) : ClkAt (w.setCell ⟨b, 1, none⟩ (.int .u64 n)) b n fr ring := by
  obtain ⟨cs, h, hs, h0, h1, h2, h3, h4⟩ := h
  refine ⟨cs.setIfInBounds 1 (.int .u64 n), heap_setCell_same w b 1 cs 49 _ h, by simpa using hs, ?_, ?_, ?_, h3, fun i hi => ?_⟩
  · rw [Array.getElem?_setIfInBounds, if_neg (by omega)]; exact h0
  · rw [Array.getElem?_setIfInBounds, if_pos rfl, if_pos (by omega)]
  · rw [Array.getElem?_setIfInBounds, if_neg (by omega)]; exact h2
  · rw [Array.getElem?_setIfInBounds, if_neg (by omega)]; exact h4 i hi
theorem ClkAt.setFr (h : ClkAt w b last fr ring) (n : Nat) : ClkAt (w.setCell ⟨b, 2, none⟩ (.int .u64 n)) b last n ring := by
  obtain ⟨cs, h, hs, h0, h1, h2, h3, h4⟩ := h
  refine ⟨cs.setIfInBounds 2 (.int .u64 n), heap_setCell_same w b 2 cs 49 _ h, by simpa using hs, ?_, ?_, ?_, h3, fun i hi => ?_⟩
  · rw [Array.getElem?_setIfInBounds, if_neg (by omega)]; exact h0
  · rw [Array.getElem?_setIfInBounds, if_neg (by omega)]; exact h1
  · rw [Array.getElem?_setIfInBounds, if_pos rfl, if_pos (by omega)]
  · rw [Array.getElem?_setIfInBounds, if_neg (by omega)]; exact h4 i hi
theorem ClkAt.setRing (h : ClkAt w b last fr ring) (j n : Nat) (hj : j < 4096) : ClkAt (w.setCell ⟨b, 3 + j, none⟩ (.int .u64 n)) b last fr (ring.set j n) := by
  obtain ⟨cs, h, hs, h0, h1, h2, h3, h4⟩ := h
  refine ⟨cs.setIfInBounds (3 + j) (.int .u64 n), heap_setCell_same w b (3 + j) cs 49 _ h, by simpa using hs, ?_, ?_, ?_, by simpa using h3, fun i hi => ?_⟩
  · rw [Array.getElem?_setIfInBounds, if_neg (by omega)]; exact h0
  · rw [Array.getElem?_setIfInBounds, if_neg (by omega)]; exact h1
  · rw [Array.getElem?_setIfInBounds, if_neg (by omega)]; exact h2
  · rw [Array.getElem?_setIfInBounds, Stamps.getD_set _ _ _ _ (by omega)]
    by_cases e : j = i
    · subst e; rw [if_pos rfl, if_pos (by omega), if_pos rfl]
    · rw [if_neg (by omega), if_neg e]; exact h4 i hi
theorem only_setCell {a w : World} {g : Nat} (h : a.grownBy w (some g)) {p : Addr} (hp : p.block = g) (u : Value) : a.grownBy (w.setCell p u) (some g) :=
  ⟨h.os, h.tape, h.output, by simpa [World.setCell] using h.size, fun i hi hne => (Below.heap_setCell w p u i (by
    rintro rfl
    exact hne (by rw [hp]))).trans (h.block i hi hne)⟩
end

def AdvRel (w : World) (b last fr : Nat) (ring : List Nat) (k : Nat) (wr : World) : Prop :=
  ∃ F : Nat, k = last + 1 - F ∧ fr ≤ F ∧ F ≤ last ∧ (∀ s, fr < s → s ≤ F → ring.getD (s % 4096) 0 = s) ∧ ClkAt wr b last F ring ∧ w.grownBy wr (some b)
def AdvPost (w : World) (b last fr : Nat) (ring : List Nat) (w' : World) : Prop :=
  ∃ fr', Stamps.Adv ring fr fr' ∧ ClkAt w' b last fr' ring ∧ w.grownBy w' (some b)
theorem advance_any (w : World) (b last fr : Nat) (ring : List Nat) (h : ClkAt w b last fr ring) (hle : fr ≤ last) (hl : last ≤ 4611686018427387904) (hr : ∀ i, ring.getD i 0 ≤ last) :
    Calls Try.prog 19 #[.pointer (some ⟨b, 0, none⟩)] w fun e w' => e = .returned (.tuple #[]) ∧ AdvPost w b last fr ring w' := by
  go_enter Try.func19, Try.ntmps19
  go_wp2_with fail
  go_loopg [2] (last + 1 - fr) (fun k _ wr => AdvRel w b last fr ring k wr)
  case atStart => exact ⟨fr, rfl, Nat.le_refl _, hle, fun s h1 h2 => by omega, h, World.grownBy.refl w _⟩
  case round =>
    obtain ⟨F, hk, h1, h2, h3, h4, h5⟩ := hrel
    have H3 := Lib.hid h3
    have H5 := Lib.hid h5
    have HK := Lib.hid hk
    clear h3 h5 hk
    have hc2 := h4.fr_
    have hc3 := h4.ring_ ((F + 1) % 4096) (by omega)
    obtain ⟨x, hx⟩ : ∃ x, x = ring.getD ((F + 1) % 4096) 0 := ⟨_, rfl⟩
    rw [← hx] at hc3
    have hxl : x ≤ last := by rw [hx]; exact hr _
    have HX := Lib.hid hx
    clear hx hr
    have hd : (F : Int) + 1 ≤ 4611686018427387905 := by omega
    by_cases hs : (x : Int) = F + 1
    · have hf : ((x : Int) != (F : Int) + 1) = false := by simp [hs]
      have HS := Lib.hid hs
      clear hs
      go_wp2_with fail
      refine (load_any _ _ _ hc2).mono ?_
      rintro e w' ⟨rfl, rfl⟩
      go_wp2_with fail
      refine (place_any b ((F + 1) % 4096) _ (by omega) (by omega) _).mono ?_
      rintro e w' ⟨rfl, rfl⟩
      go_wp2_with fail
      refine (load_any _ _ _ hc3).mono ?_
      rintro e w' ⟨rfl, rfl⟩
      go_wp2_with fail
      refine (cas_hit _ _ _ _ hc2 (h4.free _)).mono ?_
      rintro e w' ⟨rfl, rfl⟩
      go_wp2_with fail
      go_roundg (last + 1 - (F + 1))
      case measure => have := HK.out; have := HS.out; omega
      case rel =>
        have h := HS.out
        exact ⟨F + 1, rfl, by omega, by omega, fun s a1 a2 => by
          rcases Nat.lt_or_ge F s with hlt | hge
          · obtain rfl : s = F + 1 := by omega
            rw [← HX.out]; omega
          · exact H3.out s a1 hge, by simpa using h4.setFr (F + 1), only_setCell H5.out rfl _⟩
    · have hf : ((x : Int) != (F : Int) + 1) = true := by simp [hs]
      have HS := Lib.hid hs
      clear hs
      go_wp2_with fail
      refine (load_any _ _ _ hc2).mono ?_
      rintro e w' ⟨rfl, rfl⟩
      go_wp2_with fail
      refine (place_any b ((F + 1) % 4096) _ (by omega) (by omega) _).mono ?_
      rintro e w' ⟨rfl, rfl⟩
      go_wp2_with fail
      refine (load_any _ _ _ hc3).mono ?_
      rintro e w' ⟨rfl, rfl⟩
      go_wp2_with fail
      refine bodyPost_ret (results_none rfl _ _ _) rfl ⟨rfl, F, ⟨h1, H3.out, ?_⟩, h4, H5.out⟩
      rw [← HX.out]
      have := HS.out
      omega
end Go.Proofs.Ytfacmkfcdfaphaa
