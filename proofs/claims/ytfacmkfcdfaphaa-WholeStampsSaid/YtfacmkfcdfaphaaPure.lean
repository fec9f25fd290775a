/- The plain law of a clock: what the ring, the frontier and the list of open stamps have to do with one another; no program in sight. Its conditions stand in each theorem. -/
namespace Stamps

/-- The ring of a clock: `rg s` what stands at the place of a stamp. -/
structure Inv (first last fr : Nat) (ring : List Nat) (opn : List Nat) : Prop where
  len : ring.length = 4096
  le : first ≤ last
  near : last ≤ first + 100
  sorted : opn.Pairwise (· < ·)
  lo : ∀ s ∈ opn, first < s
  hi : ∀ s ∈ opn, s ≤ last
  done_ : ∀ s, first < s → s ≤ last → s ∉ opn → ring.getD (s % 4096) 0 = s
  open_ : ∀ s ∈ opn, ring.getD (s % 4096) 0 = 0
  other : ∀ i, i < 4096 → (∀ s, first < s → s ≤ last → s % 4096 ≠ i) → ring.getD i 0 = 0
  front : fr = if opn = [] then last else opn.headD 0 - 1

theorem Inv.start (first : Nat) : Inv first first first (List.replicate 4096 0) [] where
  len := List.length_replicate
  le := Nat.le_refl _
  near := by omega
  sorted := List.Pairwise.nil
  lo := fun s hs => absurd hs (by simp)
  hi := fun s hs => absurd hs (by simp)
  done_ := by intro s h1 h2; omega
  open_ := fun s hs => absurd hs (by simp)
  other := by
    intro i hi _
    rw [List.getD_eq_getElem?_getD, List.getElem?_replicate]
    split <;> rfl
  front := by rw [if_pos rfl]

theorem place_ne {a b first : Nat} (ha : first < a) (hb : first < b) (ha' : a ≤ first + 101) (hb' : b ≤ first + 101) (h : a ≠ b) : a % 4096 ≠ b % 4096 := by omega

theorem Inv.frlo {first last fr : Nat} {ring opn : List Nat} (h : Inv first last fr ring opn) : first ≤ fr ∧ fr ≤ last := by
  have h1 := h.front; have h2 := h.le
  cases opn with
  | nil => simp at h1; omega
  | cons x l =>
    have h3 := h.lo x (by simp); have h4 := h.hi x (by simp)
    simp at h1; omega

theorem Inv.take {first last fr : Nat} {ring opn : List Nat} (h : Inv first last fr ring opn) (hn : last < first + 100) : Inv first (last + 1) fr ring (opn ++ [last + 1]) where
  len := h.len
  le := by have := h.le; omega
  near := by omega
  sorted := by
    rw [List.pairwise_append]
    refine ⟨h.sorted, by simp, ?_⟩
    intro a ha b hb
    have := h.hi a ha
    simp at hb; omega
  lo := by
    intro s hs
    rcases List.mem_append.1 hs with hs | hs
    · exact h.lo s hs
    · have := h.le; simp at hs; omega
  hi := by
    intro s hs
    rcases List.mem_append.1 hs with hs | hs
    · have := h.hi s hs; omega
    · simp at hs; omega
  done_ := by
    intro s h1 h2 h3
    simp at h3
    exact h.done_ s h1 (by omega) h3.1
  open_ := by
    intro s hs
    rcases List.mem_append.1 hs with hs | hs
    · exact h.open_ s hs
    · simp at hs; subst hs
      refine h.other _ (Nat.mod_lt _ (by omega)) ?_
      intro s h1 h2
      have := h.le
      exact place_ne (first := first) h1 (by omega) (by omega) (by omega) (by omega)
  other := by
    intro i hi h1
    exact h.other i hi fun s a b => h1 s a (by omega)
  front := by
    have := h.front
    cases opn with
    | nil => simp at this; simp [this]
    | cons x l => simpa using this

/-- What `advance` comes to. -/
def Adv (ring : List Nat) (f f' : Nat) : Prop := f ≤ f' ∧ (∀ s, f < s → s ≤ f' → ring.getD (s % 4096) 0 = s) ∧ ring.getD ((f' + 1) % 4096) 0 ≠ f' + 1

theorem getD_set (l : List Nat) (i j v : Nat) (hi : i < l.length) : (l.set i v).getD j 0 = if i = j then v else l.getD j 0 := by
  simp only [List.getD_eq_getElem?_getD, List.getElem?_set]
  split
  · subst_vars; simp [*]
  · rfl

theorem mem_erase_sorted {l : List Nat} (h : l.Pairwise (· < ·)) (s x : Nat) : x ∈ l.erase s ↔ x ≠ s ∧ x ∈ l := by
  have hn : l.Nodup := h.imp (fun h => by omega)
  exact hn.mem_erase_iff

theorem erase_sorted {l : List Nat} (h : l.Pairwise (· < ·)) (s : Nat) : (l.erase s).Pairwise (· < ·) := h.sublist List.erase_sublist

theorem Inv.done {first last fr fr' : Nat} {ring opn : List Nat} (h : Inv first last fr ring opn) {s : Nat} (hs : s ∈ opn) (ha : Adv (ring.set (s % 4096) s) fr fr') : Inv first last fr' (ring.set (s % 4096) s) (opn.erase s) := by
  have hlo := h.lo s hs
  have hhi := h.hi s hs
  have hnear := h.near
  have hlen := h.len
  have hmod : s % 4096 < ring.length := by rw [hlen]; exact Nat.mod_lt _ (by omega)
  have hD : ∀ t, first < t → t ≤ last → t ∉ opn.erase s → (ring.set (s % 4096) s).getD (t % 4096) 0 = t := by
    intro t h1 h2 h3
    rw [mem_erase_sorted h.sorted] at h3
    rw [getD_set _ _ _ _ hmod]
    by_cases e : t = s
    · subst e; simp
    · rw [if_neg (place_ne (first := first) hlo h1 (by omega) (by omega) (fun h => e h.symm))]
      exact h.done_ t h1 h2 (fun hm => h3 ⟨e, hm⟩)
  have hO : ∀ t ∈ opn.erase s, (ring.set (s % 4096) s).getD (t % 4096) 0 = 0 := by
    intro t ht
    rw [mem_erase_sorted h.sorted] at ht
    have h1 := h.lo t ht.2
    have h2 := h.hi t ht.2
    rw [getD_set _ _ _ _ hmod, if_neg (place_ne (first := first) hlo h1 (by omega) (by omega) (fun h => ht.1 h.symm))]
    exact h.open_ t ht.2
  have hX : ∀ i, i < 4096 → (∀ s, first < s → s ≤ last → s % 4096 ≠ i) → (ring.set (s % 4096) s).getD i 0 = 0 := by
    intro i hi h1
    rw [getD_set _ _ _ _ hmod, if_neg (h1 s hlo hhi)]
    exact h.other i hi h1
  have hf := h.frlo
  refine ⟨by simp [hlen], h.le, h.near, erase_sorted h.sorted s, ?_, ?_, hD, hO, hX, ?_⟩
  · intro t ht; exact h.lo t ((mem_erase_sorted h.sorted s t).1 ht).2
  · intro t ht; exact h.hi t ((mem_erase_sorted h.sorted s t).1 ht).2
  · obtain ⟨a1, a2, a3⟩ := ha
    -- the frontier never goes past last
    have hle : fr' ≤ last := by
      rcases Nat.lt_or_ge last fr' with hgt | hge
      · have h1 := a2 (last + 1) (by omega) (by omega)
        have h2 := hX ((last + 1) % 4096) (Nat.mod_lt _ (by omega)) (fun t h1 h2 => place_ne (first := first) h1 (by have := h.le; omega) (by omega) (by omega) (by omega))
        omega
      · exact hge
    have hnone : ∀ t ∈ opn.erase s, fr' < t := by
      intro t ht
      rcases Nat.lt_or_ge fr' t with hgt | hge
      · exact hgt
      · have h0 := hO t ht
        have ht' := (mem_erase_sorted h.sorted s t).1 ht
        have hlt : fr < t := by
          have hfr := h.front
          cases opn with
          | nil => simp at hs
          | cons x l =>
            simp at hfr
            have hx := h.lo x (by simp)
            have hs' := h.sorted
            rw [List.pairwise_cons] at hs'
            rcases List.mem_cons.1 ht'.2 with e | e
            · subst e; omega
            · have := hs'.1 t e; omega
        have h1 := a2 t hlt hge
        have := h.lo t ht'.2
        omega
    by_cases hl : fr' = last
    · subst hl
      have : opn.erase s = [] := by
        cases he : opn.erase s with
        | nil => rfl
        | cons x l =>
          have h1 := hnone x (by rw [he]; simp)
          have h2 := h.hi x ((mem_erase_sorted h.sorted s x).1 (by rw [he]; simp)).2
          omega
      simp [this]
    · have hin : fr' + 1 ∈ opn.erase s := by
        by_cases hin : fr' + 1 ∈ opn.erase s
        · exact hin
        · exact absurd (hD (fr' + 1) (by omega) (by omega) hin) a3
      cases he : opn.erase s with
      | nil => rw [he] at hin; simp at hin
      | cons x l =>
        have hsrt := erase_sorted h.sorted s
        rw [he, List.pairwise_cons] at hsrt
        have h1 := hnone x (by rw [he]; simp)
        rw [he] at hin
        rcases List.mem_cons.1 hin with e | e
        · simp; omega
        · have := hsrt.1 _ e; omega

/-- The stamps that are open, as the clock tells them. -/
def openOf (ring : List Nat) (fr last : Nat) : List Nat := (List.range' (fr + 1) (last - fr)).filter fun s => ring.getD (s % 4096) 0 < s

theorem sorted_ext {a b : List Nat} (ha : a.Pairwise (· < ·)) (hb : b.Pairwise (· < ·)) (h : ∀ x, x ∈ a ↔ x ∈ b) : a = b := by
  induction a generalizing b with
  | nil =>
    cases b with
    | nil => rfl
    | cons y b => exact absurd ((h y).2 (by simp)) (by simp)
  | cons x a ih =>
    cases b with
    | nil => exact absurd ((h x).1 (by simp)) (by simp)
    | cons y b =>
      rw [List.pairwise_cons] at ha hb
      have e : x = y := by
        rcases List.mem_cons.1 ((h x).1 (by simp)) with e | e
        · exact e
        · rcases List.mem_cons.1 ((h y).2 (by simp)) with e' | e'
          · exact e'.symm
          · have := ha.1 _ e'; have := hb.1 _ e; omega
      subst e
      congr 1
      refine ih ha.2 hb.2 fun z => ?_
      constructor
      · intro hz
        rcases List.mem_cons.1 ((h z).1 (by simp [hz])) with e | e
        · subst e; have := ha.1 _ hz; omega
        · exact e
      · intro hz
        rcases List.mem_cons.1 ((h z).2 (by simp [hz])) with e | e
        · subst e; have := hb.1 _ hz; omega
        · exact e

theorem Inv.opened {first last fr : Nat} {ring opn : List Nat} (h : Inv first last fr ring opn) : openOf ring fr last = opn := by
  have hf := h.frlo
  refine sorted_ext ((List.pairwise_lt_range' (step := 1) (by omega)).filter _) h.sorted fun x => ?_
  simp only [openOf, List.mem_filter, List.mem_range'_1, decide_eq_true_eq]
  constructor
  · rintro ⟨⟨h1, h2⟩, h3⟩
    by_cases hx : x ∈ opn
    · exact hx
    · have := h.done_ x (by omega) (by omega) hx
      omega
  · intro hx
    have h1 := h.lo x hx
    have h2 := h.hi x hx
    have h3 := h.open_ x hx
    have : fr < x := by
      have hfr := h.front
      cases opn with
      | nil => simp at hx
      | cons y l =>
        simp at hfr
        have hy := h.lo y (by simp)
        have hs' := h.sorted
        rw [List.pairwise_cons] at hs'
        rcases List.mem_cons.1 hx with e | e
        · subst e; omega
        · have := hs'.1 x e; omega
    exact ⟨⟨by omega, by omega⟩, by omega⟩

/-- A stamp that is not open is refused. -/
theorem Inv.refused {first last fr : Nat} {ring opn : List Nat} (h : Inv first last fr ring opn) {s : Nat} (h0 : first ≤ s) (hs : s ∉ opn) : last < s ∨ s ≤ fr ∨ s ≤ ring.getD (s % 4096) 0 := by
  have hf := h.frlo
  rcases Nat.lt_or_ge last s with h1 | h1
  · exact .inl h1
  · by_cases h2 : s ≤ fr
    · exact .inr (.inl h2)
    · refine .inr (.inr ?_)
      rw [h.done_ s (by omega) h1 hs]
      exact Nat.le_refl _
theorem Inv.granted {first last fr : Nat} {ring opn : List Nat} (h : Inv first last fr ring opn) {s : Nat} (hs : s ∈ opn) : s ≤ last ∧ fr < s ∧ ring.getD (s % 4096) 0 < s := by
  have h1 := h.lo s hs
  have h2 := h.hi s hs
  have h3 := h.open_ s hs
  refine ⟨h2, ?_, by omega⟩
  have hfr := h.front
  cases opn with
  | nil => simp at hs
  | cons y l =>
    simp at hfr
    have hy := h.lo y (by simp)
    have hs' := h.sorted
    rw [List.pairwise_cons] at hs'
    rcases List.mem_cons.1 hs with e | e
    · subst e; omega
    · have := hs'.1 s e; omega
theorem Inv.bound {first last fr : Nat} {ring opn : List Nat} (h : Inv first last fr ring opn) (i : Nat) : ring.getD i 0 ≤ last := by
  by_cases hi : i < 4096
  · by_cases he : ∃ s, first < s ∧ s ≤ last ∧ s % 4096 = i
    · obtain ⟨s, h1, h2, rfl⟩ := he
      by_cases ho : s ∈ opn
      · rw [h.open_ s ho]; omega
      · rw [h.done_ s h1 h2 ho]; exact h2
    · rw [h.other i hi (fun s h1 h2 h3 => he ⟨s, h1, h2, h3⟩)]; omega
  · rw [List.getD_eq_getElem?_getD, List.getElem?_eq_none (by have := h.len; omega)]
    exact Nat.zero_le _
end Stamps
