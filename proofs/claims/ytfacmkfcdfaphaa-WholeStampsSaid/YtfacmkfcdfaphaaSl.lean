/- slices.Index, slices.Equal and slices.Delete at []uint64 over rows of the call's own, each by its contract. No conditions beyond those that each theorem states. -/
import Derived.Test.YtfacmkfcdfaphaaChecked
import Derived.WalkKit
import Derived.WalkLawsBesides
import Derived.WalkSpells
import Derived.BigQuiet
import Derived.Deep.QuietTactic
import Derived.Deep.LoopGhost
import Derived.Deep.RegionLaw
import Derived.Deep.Draws
import Derived.Lib.Hide
namespace Go.Proofs.Ytfacmkfcdfaphaa
open Go.RowKit

def U (xs : List Nat) : List Value := xs.map fun (n : Nat) => Value.int .u64 (n : Int)
/-- v owns the row xs, from block B on. -/
def RowU (w : World) (B : Nat) (v : Value) (xs : List Nat) : Prop := w.ownsRow B 24 1 v xs.length (U xs)
theorem RowU.shape {w : World} {B : Nat} {v : Value} {xs : List Nat} (h : RowU w B v xs) :
    ∃ A c, v = .slice A xs.length c ∧ xs.length ≤ c ∧ c ≤ 9223372036854775807 ∧ ∀ k, k < xs.length → ∃ g, A = some ⟨g, 0, none⟩ ∧ w.cell? ⟨g, k, none⟩ = some (.int .u64 (xs.getD k 0)) := by
  have h0 := h
  rcases h.2 with ⟨rfl, hn⟩ | ⟨g, cap, cur, rfl, hB, hg, hc, hm, _⟩
  · exact ⟨none, 0, by rw [hn], by omega, by omega, fun k hk => by omega⟩
  · refine ⟨some ⟨g, 0, none⟩, cap, rfl, hc, by simpa [maxLen] using hm, fun k hk => ⟨g, rfl, ?_⟩⟩
    rw [World.ownsRow.cellAt h0 k (by omega)]
    simp [U, List.getElem?_eq_getElem hk]
theorem RowU.kept {w w' : World} {B : Nat} {v : Value} {xs : List Nat} (h : RowU w B v xs) {row : Option Nat} (hg : w.grownBy w' row) (hne : v.ownBlock = none ∨ v.ownBlock ≠ row) : RowU w' B v xs := World.ownsRow.kept h hg hne
theorem grown_drewN (w : World) (n : Nat) : w.grownBy (w.drewN n) none := ⟨rfl, rfl, rfl, Nat.le_refl _, fun _ _ _ => rfl⟩

def idx (xs : List Nat) (x : Nat) : Int := if x ∈ xs then (xs.idxOf x : Int) else -1
theorem idx_found {xs : List Nat} {x k : Nat} (hk : k < xs.length) (h : xs.getD k 0 = x) (hn : ∀ j, j < k → xs.getD j 0 ≠ x) : idx xs x = k := by
  have hx : xs[k] = x := by rw [← h]; simp [hk]
  have hm : x ∈ xs := hx ▸ List.getElem_mem hk
  rw [idx, if_pos hm]
  have h1 : xs.idxOf x < xs.length := List.idxOf_lt_length_of_mem hm
  have h2 : xs[xs.idxOf x] = x := List.getElem_idxOf h1
  have h3 : ¬ xs.idxOf x < k := fun hlt => hn _ hlt (by simp [h1, h2])
  have h4 : ¬ k < xs.idxOf x := fun hlt => by
    have := List.not_of_lt_findIdx (p := (· == x)) (xs := xs) (i := k) hlt
    simp [hx] at this
  omega
theorem idx_none {xs : List Nat} {x : Nat} (hn : ∀ j, j < xs.length → xs.getD j 0 ≠ x) : idx xs x = -1 := by
  rw [idx, if_neg]
  intro hm
  obtain ⟨k, hk, e⟩ := List.getElem_of_mem hm
  exact hn k hk (by simp [hk, e])

def IdxRel (xs : List Nat) (x : Nat) (k : Nat) (i : Value) : Prop := ∃ j : Nat, k = xs.length - j ∧ j ≤ xs.length ∧ i = .int .i64 j ∧ ∀ t, t < j → xs.getD t 0 ≠ x
theorem index_any (w : World) (B : Nat) (v : Value) (xs : List Nat) (x : Nat) (h : RowU w B v xs) :
    Calls Try.prog 6 #[v, .int .u64 x] w fun e w' => e = .returned (.int .i64 (idx xs x)) ∧ w = w' := by
  obtain ⟨A, c, rfl, hc, hm, hcell⟩ := h.shape
  have hl : (xs.length : Int) ≤ 9223372036854775807 := by omega
  have HC := Lib.hid hcell
  clear hcell hm hc h
  go_enter Try.func6, Try.ntmps6
  go_wp2_with fail
  go_loopg [8] xs.length (fun k i wr => IdxRel xs x k i ∧ w = wr)
  case atStart => exact ⟨⟨0, rfl, Nat.zero_le _, rfl, fun t ht => by omega⟩, rfl⟩
  case round =>
    obtain ⟨⟨j, hk, hj, rfl, hn⟩, rfl⟩ := hrel
    have HK := Lib.hid hk
    have HN := Lib.hid hn
    clear hk hn
    by_cases hlt : j < xs.length
    · obtain ⟨g, rfl, hcell⟩ := HC.out j hlt
      obtain ⟨y, hy⟩ : ∃ y, y = xs.getD j 0 := ⟨_, rfl⟩
      rw [← hy] at hcell
      have HY := Lib.hid hy
      clear hy
      by_cases he : x = y
      · have hb : ((x : Int) == (y : Int)) = true := by simp [he]
        have HE := Lib.hid he
        clear he
        go_wp2_with fail
        go_ret
        exact ⟨by rw [idx_found hlt (HY.out.symm.trans HE.out.symm) HN.out]; rfl, rfl⟩
      · have hb : ((x : Int) == (y : Int)) = false := by simp; omega
        have HE := Lib.hid he
        clear he
        go_wp2_with fail
        go_roundg (xs.length - (j + 1))
        case measure => have := HK.out; omega
        case rel =>
          refine ⟨⟨j + 1, rfl, by omega, by go_num, fun t ht => ?_⟩, rfl⟩
          rcases Nat.lt_or_ge t j with h1 | h1
          · exact HN.out t h1
          · obtain rfl : t = j := by omega
            rw [← HY.out]; exact fun e => HE.out e.symm
    · have hb : (xs.length : Int) ≤ j := by omega
      go_wp2_with fail
      go_ret
      refine ⟨?_, rfl⟩
      rw [idx_none (fun t ht => HN.out t (by omega))]
      rfl

def EqRel (xs ys : List Nat) (w : World) (k : Nat) (i : Value) (wr : World) : Prop := ∃ j : Nat, k = xs.length - j ∧ j ≤ xs.length ∧ i = .int .i64 j ∧ (∀ t, t < j → xs.getD t 0 = ys.getD t 0) ∧ ∃ n, wr = w.drewN n
theorem ext_getD {xs ys : List Nat} (hl : xs.length = ys.length) (h : ∀ t, t < xs.length → xs.getD t 0 = ys.getD t 0) : xs = ys := by
  apply List.ext_getElem hl
  intro i h1 h2
  have := h i h1
  simpa [h1, h2] using this
theorem equal_any (w : World) (B B' : Nat) (v u : Value) (xs ys : List Nat) (h : RowU w B v xs) (h' : RowU w B' u ys) :
    Calls Try.prog 11 #[v, u] w fun e w' => e = .returned (.bool (decide (xs = ys))) ∧ w.grownBy w' none := by
  obtain ⟨A, c, rfl, hc, hm, hcell⟩ := h.shape
  obtain ⟨A', c', rfl, hc', hm', hcell'⟩ := h'.shape
  have hl : (xs.length : Int) ≤ 9223372036854775807 := by omega
  have HC := Lib.hid hcell
  have HC' := Lib.hid hcell'
  clear hcell hm hc h hcell' hm' hc' h'
  by_cases hlen : xs.length = ys.length
  · have hlb : ((xs.length : Int) != (ys.length : Int)) = false := by simp [hlen]
    have HL := Lib.hid hlen
    clear hlen
    go_enter Try.func11, Try.ntmps11
    go_wp2_with fail
    go_loopg [13] xs.length (fun k i wr => EqRel xs ys w k i wr)
    case atStart => exact ⟨0, rfl, Nat.zero_le _, rfl, fun t ht => by omega, 0, rfl⟩
    case round =>
      obtain ⟨j, hk, hj, rfl, hn, nq, rfl⟩ := hrel
      have HK := Lib.hid hk
      have HN := Lib.hid hn
      clear hk hn
      by_cases hlt : j < xs.length
      · obtain ⟨g, rfl, hcell⟩ := HC.out j hlt
        obtain ⟨g', rfl, hcell'⟩ := HC'.out j (by have := HL.out; omega)
        obtain ⟨y, hy⟩ : ∃ y, y = xs.getD j 0 := ⟨_, rfl⟩
        obtain ⟨z, hz⟩ : ∃ z, z = ys.getD j 0 := ⟨_, rfl⟩
        rw [← hy] at hcell
        rw [← hz] at hcell'
        have HY := Lib.hid hy
        have HZ := Lib.hid hz
        have b0 : (0 : Int) ≤ j := by omega
        have b1 : (j : Int) < xs.length := by omega
        have b2 : (j : Int) < ys.length := by have := HL.out; omega
        clear hy hz
        by_cases he : y = z
        · have hb : ((y : Int) != (z : Int)) = false := by simp [he]
          have HE := Lib.hid he
          clear he
          go_wp2_with fail
          go_quiet (fail)
          go_wp2_with fail
          go_roundg (xs.length - (j + 1))
          case measure => have := HK.out; omega
          case rel =>
            refine ⟨j + 1, rfl, by omega, by go_num, fun t ht => ?_, _, rfl⟩
            rcases Nat.lt_or_ge t j with h1 | h1
            · exact HN.out t h1
            · obtain rfl : t = j := by omega
              rw [← HY.out, ← HZ.out]; exact HE.out
        · have hb : ((y : Int) != (z : Int)) = true := by simp; omega
          have HE := Lib.hid he
          clear he
          go_wp2_with fail
          go_quiet (fail)
          go_wp2_with fail
          go_ret
          refine ⟨?_, (grown_drewN _ _).trans (grown_drewN _ _)⟩
          rw [decide_eq_false (fun e => HE.out (by rw [HY.out, HZ.out, e]))]
          rfl
      · have hb : (xs.length : Int) ≤ j := by omega
        go_wp2_with fail
        go_ret
        refine ⟨?_, grown_drewN _ _⟩
        rw [decide_eq_true (ext_getD HL.out (fun t ht => HN.out t (by omega)))]
        rfl
  · have hlb : ((xs.length : Int) != (ys.length : Int)) = true := by simp; omega
    have HL := Lib.hid hlen
    clear hlen
    go_enter Try.func11, Try.ntmps11
    go_wp2_with fail
    go_ret
    refine ⟨?_, World.grownBy.refl w _⟩
    rw [decide_eq_false (fun e => HL.out (by rw [e]))]
    rfl

/-! ### slices.Delete(s, i, i+1) -/
theorem info24 : (Try.prog.info? 24).map (fun i => (i.zero, i.size, i.bytes)) = some (some (.int .u64 0), 1, 8) := by kernel_rfl
theorem U_length (xs : List Nat) : (U xs).length = xs.length := by simp [U]
theorem RowU.block {w : World} {B g cap : Nat} {xs : List Nat} {n : Nat} (h : w.ownsRow B 24 1 (.slice (some ⟨g, 0, none⟩) n cap) n (U xs)) :
    B ≤ g ∧ ∃ cur : Array Value, w.heap[g]? = some (.cells cur 24 (0, 0)) ∧ n ≤ cap ∧ cap ≤ maxLen ∧ cur.size = cap ∧ cur.toList.take n = U xs := by
  rcases h.2 with ⟨e, _⟩ | ⟨g', cap', cur, e, hB, hg, hc, hm, hs, ht⟩
  · simp at e
  · injection e with e1 e2 e3
    injection e1 with e1
    injection e1 with e1
    subst e1 e3
    exact ⟨hB, cur, hg, hc, hm, by simpa using hs, by simpa using ht⟩
/-- What is left behind: the block's cells. -/
theorem heap_setCells (b : Nat) (t : TypeId) : ∀ (vs : List Value) (o : Nat) (w : World) (cs : Array Value), w.heap[b]? = some (.cells cs t (0, 0)) → o + vs.length ≤ cs.size →
    ∃ cs', (w.setCells b o vs).heap[b]? = some (.cells cs' t (0, 0)) ∧ cs'.size = cs.size ∧ ∀ k, cs'[k]? = if o ≤ k ∧ k < o + vs.length then vs[k - o]? else cs[k]?
  | [], o, w, cs, h, _ => ⟨cs, h, rfl, fun k => by rw [if_neg (by intro ⟨h1, h2⟩; simp at h2; omega)]⟩
  | v :: r, o, w, cs, h, hl => by
    have h1 := heap_setCell_same w b o cs t v h
    obtain ⟨cs', h2, h3, h4⟩ := heap_setCells b t r (o + 1) _ _ h1 (by simp at hl ⊢; omega)
    refine ⟨cs', h2, by simpa using h3, fun k => ?_⟩
    rw [h4 k, Array.getElem?_setIfInBounds]
    simp only [List.length_cons] at hl ⊢
    by_cases e : k = o
    · subst e
      rw [if_neg (by omega), if_pos rfl, if_pos (by omega), if_pos (by omega)]
      simp
    · by_cases e2 : o + 1 ≤ k ∧ k < o + 1 + r.length
      · rw [if_pos e2, if_pos (by omega), show k - o = (k - (o + 1)) + 1 by omega]
        simp
      · rw [if_neg e2, if_neg (by omega), if_neg (by omega)]
theorem grown_setCells {a w : World} {g : Nat} (h : a.grownBy w (some g)) : ∀ (vs : List Value) (o : Nat), a.grownBy (w.setCells g o vs) (some g) := by
  intro vs
  induction vs generalizing w with
  | nil => exact fun _ => h
  | cons v r ih => exact fun o => ih (w := w.setCell ⟨g, o, none⟩ v) ⟨h.os, h.tape, h.output, by simpa [World.setCell] using h.size, fun i hi hne => (Below.heap_setCell w ⟨g, o, none⟩ v i (fun e => hne (by rw [e]))).trans (h.block i hi hne)⟩ (o + 1)

theorem clear_one (W : World) (g j c : Nat) (cs : Array Value) (h : W.heap[g]? = some (.cells cs 24 (0, 0))) (hj : j < cs.size) :
    (Builtin.clear_ #[29] 0 #[.slice (some ⟨g, j, none⟩) 1 c]).run Try.prog W = .ok (.tuple #[]) (W.setCell ⟨g, j, none⟩ (.int .u64 0)) := by
  have h1 : W.cell? ⟨g, j, none⟩ = some cs[j] := by rw [cell_of_row W g j cs 24 (0, 0) h]; simp [hj]
  have h2 := frozen_of_row W g j cs 24 h
  have h3 : (zeroValue 24).run Try.prog W = .ok (.int .u64 0) W := by kernel_rfl
  have h4 : (Builtin.zeroCells #[Value.int .u64 0] 1).toList = [Value.int .u64 0] := by kernel_rfl
  simp [Builtin.clear_, go_sem, h1, h2, h3, h4, storeCells]
theorem only_set {a w : World} {g : Nat} (h : a.grownBy w (some g)) (j : Nat) (u : Value) : a.grownBy (w.setCell ⟨g, j, none⟩ u) (some g) :=
  ⟨h.os, h.tape, h.output, by simpa [World.setCell] using h.size, fun i hi hne => (Below.heap_setCell w ⟨g, j, none⟩ u i (fun e => hne (by rw [e]))).trans (h.block i hi hne)⟩
def moved (xs : List Nat) (i : Nat) : List Value := U (xs.drop (i + 1))
theorem moved_length (xs : List Nat) (i : Nat) : (moved xs i).length = xs.length - (i + 1) := by simp [moved, U]
def DelPost (w : World) (B g : Nat) (cap : Nat) (xs : List Nat) (i : Nat) (w' : World) : Prop :=
  RowU w' B (.slice (some ⟨g, 0, none⟩) (xs.length - 1) cap) (xs.eraseIdx i) ∧ w.grownBy w' (some g)
set_option maxHeartbeats 1600000 in
set_option maxRecDepth 1000000 in
theorem delete_any (w : World) (B g cap i : Nat) (xs : List Nat) (h : RowU w B (.slice (some ⟨g, 0, none⟩) xs.length cap) xs) (hi : i < xs.length) :
    Calls Try.prog 7 #[.slice (some ⟨g, 0, none⟩) xs.length cap, .int .i64 i, .int .i64 ((i : Int) + 1)] w fun e w' => e = .returned (.slice (some ⟨g, 0, none⟩) (xs.length - 1 : Nat) cap) ∧ DelPost w B g cap xs i w' := by
  obtain ⟨i0, hi0, hz0, hz1, hz2⟩ := info_parts info24
  obtain ⟨hB, cur, hg, hc, hm, hcs, htk⟩ := RowU.block h
  generalize hn : xs.length = n at *
  have hcell : ∀ j, j < n → w.cell? ⟨g, j, none⟩ = some (.int .u64 (xs.getD j 0)) := fun j hj => by
    rw [cell_of_row w g j cur 24 (0, 0) hg, ← Array.getElem?_toList]
    have := congrArg (fun l => l[j]?) htk
    simp only [List.getElem?_take, hj, if_true] at this
    rw [this]
    simp [U, show j < xs.length by omega]
  have hfree : ∀ j, w.frozen? ⟨g, j, none⟩ = false := fun j => frozen_of_row w g j cur 24 hg
  obtain ⟨A, hA, hnews⟩ : ∃ A : Addr, (if cap = i + 1 then some (⟨g, 0, none⟩ : Addr) else some ⟨g, i + 1, none⟩) = some A ∧ Hid (∀ j u, (moved xs i)[j]? = some u → w.drew.cell? (A.add j) = some u) := by
    have hml := moved_length xs i
    by_cases h : cap = i + 1
    · refine ⟨⟨g, 0, none⟩, by simp [h], fun j u hu => ?_⟩
      have h0 : (moved xs i).length = 0 := by omega
      rw [List.length_eq_zero_iff.1 h0] at hu
      simp at hu
    · refine ⟨⟨g, i + 1, none⟩, by simp [h], fun j u hu => ?_⟩
      have hj : j < n - (i + 1) := by
        have := (List.getElem?_eq_some_iff.1 hu).1
        omega
      rw [Addr.add_lit]
      show w.cell? _ = _
      rw [hcell (i + 1 + j) (by omega), ← hu]
      simp [moved, U, List.getElem?_drop, show i + 1 + j < xs.length by omega]
  have s1 : Hid ((moved xs i).length = (n - (i + 1)) * 1) := by rw [Nat.mul_one, moved_length, hn]; exact rfl
  have s2 : Hid (∀ u ∈ moved xs i, u.oneCell' = true) := by
    intro u hu
    obtain ⟨x, _, rfl⟩ := List.mem_map.1 hu
    rfl
  have s3 : Hid (∀ j, j < (moved xs i).length → (w.drew.cell? ⟨g, 0 + i * 1 + j, none⟩).isSome = true ∧ w.drew.frozen? ⟨g, 0 + i * 1 + j, none⟩ = false) := by
    intro j hj
    rw [moved_length, hn] at hj
    rw [Nat.mul_one, Nat.zero_add]
    exact ⟨by show (w.cell? _).isSome = true; rw [hcell (i + j) (by omega)]; rfl, hfree (i + j)⟩
  have k0 := grown_setCells (a := w) (w := w.drew) (g := g) ⟨rfl, rfl, rfl, Nat.le_refl _, fun _ _ _ => rfl⟩ (moved xs i) (0 + i * 1)
  obtain ⟨cs', k1, k2, k3⟩ := heap_setCells g 24 (moved xs i) (0 + i * 1) w.drew cur hg (by rw [moved_length]; omega)
  have hm' : cap ≤ 9223372036854775807 := by simpa [maxLen] using hm
  have HN := Lib.hid hn
  have HCur := Lib.hid hcs
  have HTk := Lib.hid htk
  clear hcell hfree hn hm h hg htk hcs
  have hic : i ≤ cap := by omega
  have hwr : IntKind.i64.wrap ((i : Int) + 1) = (i : Int) + 1 := by rw [IntKind.wrap_i64]; omega
  have hp0 : (0 : Int) ≤ (i : Int) + 1 := by omega
  have hp1 : (i : Int) + 1 ≤ (n : Int) := by omega
  have hp2 : ((i : Int) + 1).toNat = i + 1 := by omega
  have hp3 : ((i : Int) == (i : Int) + 1) = false := by simp; omega
  have hp4 : (n : Int) ≤ cap := by omega
  have K0 := Lib.hid k0
  have K1 := Lib.hid k1
  have K3 := Lib.hid k3
  have K2 := Lib.hid k2
  clear k0 k1 k2 k3
  go_enter Try.func7, Try.ntmps7
  go_wp2_with fail
  go_region_law (refine step_append_room rfl (.tmp 22) (.tmp 25) 29 rfl 24 i0 1 Try.underlying29 hi0 hz1 g 0 i cap (by simp [Act.eval, Act.put]) A (n - (i + 1)) (cap - (i + 1)) (moved xs i) (by simp [Act.eval, Act.put]) s1.out hnews.out s2.out (by omega) s3.out ?_)
  go_wp2_with fail
  have e1 : w.drew.setCells g (0 + i * 1) (moved xs i) = w.drew.setCells g i (moved xs i) := by rw [Nat.mul_one, Nat.zero_add]
  rw [← e1]
  clear e1
  generalize w.drew.setCells g (0 + i * 1) (moved xs i) = W at *
  have e2 : i + (n - (i + 1)) = n - 1 := by omega
  have e3 : n - (n - 1) = 1 := by omega
  rw [e2, e3, clear_one W g (n - 1) _ cs' K1.out (by have := K2.out; have := HCur.out; omega)]
  have k4 := heap_setCell_same W g (n - 1) cs' 24 (.int .u64 0) K1.out
  have k5 := only_set K0.out (n - 1) (.int .u64 0)
  generalize W.setCell ⟨g, n - 1, none⟩ (.int .u64 0) = W2 at *
  have K4 := Lib.hid k4
  have K5 := Lib.hid k5
  clear k4 k5 e2 e3
  go_wp2_with fail
  go_ret
  refine ⟨rfl, ?_, ?_⟩
  · have hn := HN.out
    have h3 := K3.out
    have hml := moved_length xs i
    unfold RowU
    have hl : (xs.eraseIdx i).length = n - 1 := by rw [List.length_eraseIdx_of_lt (by omega), hn]
    refine ⟨by rw [U_length, hl]; omega, .inr ⟨g, cap, _, by rw [hl, hn], hB, K4.out, by omega, by simpa [maxLen] using hm', by simp [K2.out, HCur.out], ?_⟩⟩
    rw [hl, Nat.mul_one]
    apply List.ext_getElem?
    intro k
    have ht := congrArg (fun l => l[k]?) HTk.out
    simp only [List.getElem?_take] at ht ⊢
    by_cases hk : k < n - 1
    · rw [if_pos hk]
      rw [if_pos (by omega)] at ht
      rw [Array.getElem?_toList, Array.getElem?_setIfInBounds, if_neg (by omega), h3 k]
      simp only [Array.getElem?_toList] at ht
      rw [ht]
      by_cases hki : k < i
      · rw [if_neg (by omega)]
        simp only [U, List.getElem?_map, List.getElem?_eraseIdx]
        rw [if_pos hki]
      · rw [if_pos (by omega)]
        simp only [U, List.getElem?_map, List.getElem?_eraseIdx, moved, List.getElem?_drop]
        rw [if_neg hki, show i + 1 + (k - (0 + i * 1)) = k + 1 by omega]
    · rw [if_neg hk, List.getElem?_eq_none (by rw [U_length]; omega)]
  · exact K5.out
end Go.Proofs.Ytfacmkfcdfaphaa
