/- The clock's exported functions (New, Take, Done, Frontier, Last, Open), each by its contract. No conditions beyond those that each theorem states. -/
import Derived.Test.YtfacmkfcdfaphaaClk
namespace Go.Proofs.Ytfacmkfcdfaphaa
open Go.RowKit

def NewPost (w : World) (last : Nat) (w' : World) : Prop := ClkAt w' w.heap.size last last (List.replicate 4096 0) ∧ w.grownBy w' none
theorem new_ok (w : World) (last : Nat) (hl : last ≤ 4611686018427387904) :
    Calls Try.prog 4 #[.int .u64 last] w fun e w' => e = .returned (.tuple #[.pointer (some ⟨w.heap.size, 0, none⟩), .int .i64 0]) ∧ NewPost w last w' := by
  have hzv := zv49
  have hne := Z49_ne
  have c0 : ClkAt (w.alloc (.cells (Z49.setIfInBounds 0 (.bool true)) 49)) w.heap.size 0 0 (List.replicate 4096 0) := by
    refine ⟨_, heap_alloc_new w _, clk0_size, ?_, ?_, ?_, List.length_replicate, fun i hi => ?_⟩
    · rw [clk0_at _ (by omega)]; rfl
    · rw [clk0_at _ (by omega)]; rfl
    · rw [clk0_at _ (by omega)]; rfl
    · rw [clk0_at _ (by omega), if_neg (by omega), List.getD_eq_getElem?_getD, List.getElem?_replicate]
      split <;> rfl
  have g0 := World.grownBy_alloc w (.cells (Z49.setIfInBounds 0 (.bool true)) 49) none
  go_enter Try.func4, Try.ntmps4
  go_wp2_with fail
  generalize w.alloc (.cells (Z49.setIfInBounds 0 (.bool true)) 49) = W at *
  generalize hB : w.heap.size = B at *
  have HB := Lib.hid hB
  clear hB
  have f1 := c0.last_
  have z1 := c0.free 1
  refine (store_any _ _ _ _ f1 z1).mono ?_
  rintro e w1 ⟨rfl, hw1⟩
  have c1 : ClkAt w1 B last 0 _ := hw1 ▸ c0.setLast last
  have g1 : W.grownBy w1 (some B) := hw1 ▸ only_setCell (World.grownBy.refl W _) rfl _
  clear hw1
  go_wp2_with fail
  have f2 := c1.fr_
  have z2 := c1.free 2
  refine (store_any _ _ _ _ f2 z2).mono ?_
  rintro e w2 ⟨rfl, hw2⟩
  have c2 : ClkAt w2 B last last _ := hw2 ▸ c1.setFr last
  have g2 : W.grownBy w2 (some B) := hw2 ▸ only_setCell g1 rfl _
  clear hw2
  go_wp2_with fail
  go_ret2
  refine ⟨by have h := HB.out; subst h; rfl, ?_, ?_⟩
  · rw [HB.out]; exact c2
  · have hs := g0.size
    exact ⟨g2.os.trans g0.os, g2.tape.trans g0.tape, g2.output.trans g0.output, Nat.le_trans g0.size g2.size, fun k hk _ =>
      (g2.block k (by omega) (by have := HB.out; intro h; injection h; omega)).trans (g0.block k hk (by simp))⟩

theorem new_err (w : World) (last : Nat) (hl : 4611686018427387904 < last) :
    Calls Try.prog 4 #[.int .u64 last] w fun e w' => e = .returned (.tuple #[.pointer none, .int .i64 1]) ∧ w = w' := by
  go_enter Try.func4, Try.ntmps4
  go_wp2_with fail
  go_ret2
  exact ⟨rfl, rfl⟩

def TakePost (w : World) (b last fr : Nat) (ring : List Nat) (w' : World) : Prop := ClkAt w' b (last + 1) fr ring ∧ w.grownBy w' (some b)
theorem take_ok (w : World) (b last fr : Nat) (ring : List Nat) (h : ClkAt w b last fr ring) (hl : last < 4611686018427387904) (hf : fr ≤ last) (hn : last - fr < 4096) :
    Calls Try.prog 5 #[.pointer (some ⟨b, 0, none⟩)] w fun e w' => e = .returned (.tuple #[.int .u64 (last + 1), .int .i64 0]) ∧ TakePost w b last fr ring w' := by
  have c0 := h.is_
  have c1 := h.last_
  have c2 := h.fr_
  have d1 : (last : Int) - fr < 4096 := by omega
  have d2 : (0 : Int) ≤ last - fr := by omega
  have hq : decide ((4611686018427387904 : Int) ≤ (last : Int)) = false := decide_eq_false (by omega)
  have hq2 : decide ((4096 : Int) ≤ (last : Int) - fr) = false := decide_eq_false (by omega)
  have hw1 : IntKind.u64.wrap ((last : Int) + 1) = (last : Int) + 1 := IntWalk.u64_in _ (by omega)
  have hw2 : IntKind.u64.wrap ((last : Int) - fr) = (last : Int) - fr := IntWalk.u64_in _ (by omega)
  clear hl hn d1
  go_enter Try.func5, Try.ntmps5
  go_wp2_with fail
  refine (is_any _ _ c0).mono ?_
  rintro e w' ⟨rfl, rfl⟩
  go_wp2_with fail
  refine wp_loop_rounds 1 ?_
  rw [rounds_succ]
  go_wp2_with fail
  refine (load_any _ _ _ c1).mono ?_
  rintro e w' ⟨rfl, rfl⟩
  go_wp2_with fail
  refine (load_any _ _ _ c2).mono ?_
  rintro e w' ⟨rfl, rfl⟩
  go_wp2_with fail
  refine (cas_hit _ _ _ _ c1 (h.free _)).mono ?_
  rintro e w' ⟨rfl, hw⟩
  have c1 : TakePost w b last fr ring w' := ⟨hw ▸ h.setLast (last + 1), hw ▸ only_setCell (World.grownBy.refl w _) rfl _⟩
  clear hw
  go_wp2_with fail
  go_ret2
  exact ⟨rfl, c1⟩
theorem take_end (w : World) (b fr : Nat) (ring : List Nat) (h : ClkAt w b 4611686018427387904 fr ring) :
    Calls Try.prog 5 #[.pointer (some ⟨b, 0, none⟩)] w fun e w' => e = .returned (.tuple #[.int .u64 0, .int .i64 4]) ∧ w = w' := by
  have c0 := h.is_
  have c1 := h.last_
  go_enter Try.func5, Try.ntmps5
  go_wp2_with fail
  refine (is_any _ _ c0).mono ?_
  rintro e w' ⟨rfl, rfl⟩
  go_wp2_with fail
  refine wp_loop_rounds 1 ?_
  rw [rounds_succ]
  go_wp2_with fail
  refine (load_any _ _ _ c1).mono ?_
  rintro e w' ⟨rfl, rfl⟩
  go_wp2_with fail
  go_ret2
  exact ⟨rfl, rfl⟩
theorem frontier_any (w : World) (b last fr : Nat) (ring : List Nat) (h : ClkAt w b last fr ring) :
    Calls Try.prog 9 #[.pointer (some ⟨b, 0, none⟩)] w fun e w' => e = .returned (.int .u64 fr) ∧ w = w' := by
  have c0 := h.is_
  have c2 := h.fr_
  go_enter Try.func9, Try.ntmps9
  go_wp2_with fail
  refine (is_any _ _ c0).mono ?_
  rintro e w' ⟨rfl, rfl⟩
  go_wp2_with fail
  refine (load_any _ _ _ c2).mono ?_
  rintro e w' ⟨rfl, rfl⟩
  go_wp2_with fail
  go_ret
  exact ⟨rfl, rfl⟩
theorem last_any (w : World) (b last fr : Nat) (ring : List Nat) (h : ClkAt w b last fr ring) :
    Calls Try.prog 10 #[.pointer (some ⟨b, 0, none⟩)] w fun e w' => e = .returned (.int .u64 last) ∧ w = w' := by
  have c0 := h.is_
  have c2 := h.last_
  go_enter Try.func10, Try.ntmps10
  go_wp2_with fail
  refine (is_any _ _ c0).mono ?_
  rintro e w' ⟨rfl, rfl⟩
  go_wp2_with fail
  refine (load_any _ _ _ c2).mono ?_
  rintro e w' ⟨rfl, rfl⟩
  go_wp2_with fail
  go_ret
  exact ⟨rfl, rfl⟩

def DonePost (w : World) (b last fr s : Nat) (ring : List Nat) (w' : World) : Prop :=
  ∃ fr', Stamps.Adv (ring.set (s % 4096) s) fr fr' ∧ ClkAt w' b last fr' (ring.set (s % 4096) s) ∧ w.grownBy w' (some b)
theorem done_ok (w : World) (b last fr s : Nat) (ring : List Nat) (h : ClkAt w b last fr ring) (hl : last ≤ 4611686018427387904) (hf : fr ≤ last) (hr : ∀ i, ring.getD i 0 ≤ last)
    (h1 : s ≤ last) (h2 : fr < s) (h3 : ring.getD (s % 4096) 0 < s) :
    Calls Try.prog 8 #[.pointer (some ⟨b, 0, none⟩), .int .u64 s] w fun e w' => e = .returned (.int .i64 0) ∧ DonePost w b last fr s ring w' := by
  have c0 := h.is_
  have c1 := h.last_
  have c2 := h.fr_
  have c3 := h.ring_ (s % 4096) (by omega)
  generalize hx : ring.getD (s % 4096) 0 = x at *
  have HX := Lib.hid hx
  have HR := Lib.hid hr
  have HL := Lib.hid hl
  clear hx hr hl
  have q1 : (s : Int) ≤ last := by omega
  have q2 : (fr : Int) < s := by omega
  have q3 : (x : Int) < s := by omega
  have q4 : decide ((s : Int) ≤ (fr : Int)) = false := decide_eq_false (by omega)
  have q5 : decide ((s : Int) ≤ (x : Int)) = false := decide_eq_false (by omega)
  have q6 : decide ((last : Int) < (s : Int)) = false := decide_eq_false (by omega)
  have H1 := Lib.hid h1
  have H2 := Lib.hid h2
  clear h1 h2 h3
  go_enter Try.func8, Try.ntmps8
  go_wp2_with fail
  refine (is_any _ _ c0).mono ?_
  rintro e w' ⟨rfl, rfl⟩
  go_wp2_with fail
  refine (load_any _ _ _ c1).mono ?_
  rintro e w' ⟨rfl, rfl⟩
  go_wp2_with fail
  refine (place_any b (s % 4096) _ (by omega) (by omega) _).mono ?_
  rintro e w' ⟨rfl, rfl⟩
  go_wp2_with fail
  refine wp_loop_rounds 1 ?_
  rw [rounds_succ]
  go_wp2_with fail
  refine (load_any _ _ _ c3).mono ?_
  rintro e w' ⟨rfl, rfl⟩
  go_wp2_with fail
  refine (load_any _ _ _ c2).mono ?_
  rintro e w' ⟨rfl, rfl⟩
  go_wp2_with fail
  refine (cas_hit _ _ _ _ c3 (h.free _)).mono ?_
  rintro e w1 ⟨rfl, hw⟩
  have k1 : ClkAt w1 b last fr (ring.set (s % 4096) s) := hw ▸ h.setRing (s % 4096) s (by omega)
  have k2 : w.grownBy w1 (some b) := hw ▸ only_setCell (World.grownBy.refl w _) rfl _
  clear hw
  go_wp2_with fail
  refine (advance_any w1 b last fr _ k1 hf HL.out (fun i => ?_)).mono ?_
  · rw [Stamps.getD_set _ _ _ _ (by have := h.len; omega)]
    split
    · exact H1.out
    · exact HR.out i
  rintro e w2 ⟨rfl, fr', a1, a2, a3⟩
  have P : DonePost w b last fr s ring w2 := ⟨fr', a1, a2, ⟨a3.os.trans k2.os, a3.tape.trans k2.tape, a3.output.trans k2.output, Nat.le_trans k2.size a3.size, fun k hk hne => (a3.block k (Nat.lt_of_lt_of_le hk k2.size) hne).trans (k2.block k hk hne)⟩⟩
  clear a1 a2 a3
  go_wp2_with fail
  go_ret
  exact ⟨rfl, P⟩
theorem done_no (w : World) (b last fr s : Nat) (ring : List Nat) (h : ClkAt w b last fr ring) (hh : last < s ∨ s ≤ fr ∨ s ≤ ring.getD (s % 4096) 0) :
    Calls Try.prog 8 #[.pointer (some ⟨b, 0, none⟩), .int .u64 s] w fun e w' => e = .returned (.int .i64 60) ∧ w = w' := by
  have c0 := h.is_
  have c1 := h.last_
  have c2 := h.fr_
  have c3 := h.ring_ (s % 4096) (by omega)
  generalize hx : ring.getD (s % 4096) 0 = x at *
  clear hx
  by_cases g1 : last < s
  · have q6 : decide ((last : Int) < (s : Int)) = true := decide_eq_true (by omega)
    have q7 : (last : Int) < s := by omega
    clear hh g1
    go_enter Try.func8, Try.ntmps8
    go_wp2_with fail
    refine (is_any _ _ c0).mono ?_
    rintro e w' ⟨rfl, rfl⟩
    go_wp2_with fail
    refine (load_any _ _ _ c1).mono ?_
    rintro e w' ⟨rfl, rfl⟩
    go_wp2_with fail
    go_ret
    exact ⟨rfl, rfl⟩
  · have q6 : decide ((last : Int) < (s : Int)) = false := decide_eq_false (by omega)
    have q7 : (s : Int) ≤ last := by omega
    by_cases g2 : s ≤ fr
    · have q4 : decide ((s : Int) ≤ (fr : Int)) = true := decide_eq_true (by omega)
      have q5 : (s : Int) ≤ fr := by omega
      clear hh g1 g2
      go_enter Try.func8, Try.ntmps8
      go_wp2_with fail
      refine (is_any _ _ c0).mono ?_
      rintro e w' ⟨rfl, rfl⟩
      go_wp2_with fail
      refine (load_any _ _ _ c1).mono ?_
      rintro e w' ⟨rfl, rfl⟩
      go_wp2_with fail
      refine (place_any b (s % 4096) _ (by omega) (by omega) _).mono ?_
      rintro e w' ⟨rfl, rfl⟩
      go_wp2_with fail
      refine wp_loop_rounds 1 ?_
      rw [rounds_succ]
      go_wp2_with fail
      refine (load_any _ _ _ c3).mono ?_
      rintro e w' ⟨rfl, rfl⟩
      go_wp2_with fail
      refine (load_any _ _ _ c2).mono ?_
      rintro e w' ⟨rfl, rfl⟩
      go_wp2_with fail
      go_ret
      exact ⟨rfl, rfl⟩
    · have q4 : decide ((s : Int) ≤ (fr : Int)) = false := decide_eq_false (by omega)
      have q5 : (fr : Int) < s := by omega
      have q8 : decide ((s : Int) ≤ (x : Int)) = true := decide_eq_true (by omega)
      have q9 : (s : Int) ≤ x := by omega
      clear hh g1 g2
      go_enter Try.func8, Try.ntmps8
      go_wp2_with fail
      refine (is_any _ _ c0).mono ?_
      rintro e w' ⟨rfl, rfl⟩
      go_wp2_with fail
      refine (load_any _ _ _ c1).mono ?_
      rintro e w' ⟨rfl, rfl⟩
      go_wp2_with fail
      refine (place_any b (s % 4096) _ (by omega) (by omega) _).mono ?_
      rintro e w' ⟨rfl, rfl⟩
      go_wp2_with fail
      refine wp_loop_rounds 1 ?_
      rw [rounds_succ]
      go_wp2_with fail
      refine (load_any _ _ _ c3).mono ?_
      rintro e w' ⟨rfl, rfl⟩
      go_wp2_with fail
      refine (load_any _ _ _ c2).mono ?_
      rintro e w' ⟨rfl, rfl⟩
      go_wp2_with fail
      go_ret
      exact ⟨rfl, rfl⟩
end Go.Proofs.Ytfacmkfcdfaphaa
