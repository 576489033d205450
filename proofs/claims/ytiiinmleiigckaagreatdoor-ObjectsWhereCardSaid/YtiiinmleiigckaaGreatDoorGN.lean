/- What is proved here: plain law of the bitmap. No condition but what each theorem says. -/
import Derived.Test.YtiiinmleiigckaaGreatDoorGM
import Derived.Shelf.SlSortCmp.WholeK
set_option linter.unusedVariables false
set_option linter.unusedSimpArgs false

/- B1 -/
namespace Go.Proofs.Obj
open Go Go.RowKit

/-- Is a place in one of the runs? -/
def cov (l : List (Nat × Nat)) (p : Nat) : Bool := l.any fun r => decide (r.1 ≤ p) && decide (p < r.1 + r.2)
/-- The places of runs. -/
def runPlaces (l : List (Nat × Nat)) : List Nat := l.flatMap fun r => List.range' r.1 r.2
/-- bitmap.Free's loop. -/
def freeGo (L : Nat) : List (Nat × Nat) → Nat → List (Nat × Nat)
  | [], _ => []
  | r :: l, at_ => (if at_ < min r.1 L then [(at_, min r.1 L - at_)] else []) ++ freeGo L l (max at_ (r.1 + r.2))

theorem range'_split (a n m : Nat) : List.range' a (n + m) = List.range' a n ++ List.range' (a + n) m := by
  exact (List.range'_append_1 ..).symm

theorem range'_filter_none (a n : Nat) (f : Nat → Bool) (h : ∀ p, a ≤ p → p < a + n → f p = false) : (List.range' a n).filter f = [] := by
  rw [List.filter_eq_nil_iff]
  intro p hp
  rw [List.mem_range'_1] at hp
  simp [h p hp.1 hp.2]
theorem range'_filter_all (a n : Nat) (f : Nat → Bool) (h : ∀ p, a ≤ p → p < a + n → f p = true) : (List.range' a n).filter f = List.range' a n := by
  rw [List.filter_eq_self]
  intro p hp
  rw [List.mem_range'_1] at hp
  exact h p hp.1 hp.2

theorem freeGo_places (L : Nat) : ∀ (l : List (Nat × Nat)) (at_ : Nat), l.Pairwise (fun a b => a.1 ≤ b.1) →
    runPlaces (freeGo L (l ++ [(L, 0)]) at_) = (List.range' at_ (L - at_)).filter fun p => !cov l p
  | [], at_, _ => by
    rw [range'_filter_all _ _ _ (fun p _ _ => by simp [cov])]
    by_cases h : at_ < L
    · simp [freeGo, runPlaces, h]
    · have : L - at_ = 0 := by omega
      simp [freeGo, runPlaces, h, this]
  | r :: l, at_, hp => by
    obtain ⟨hr, hl⟩ := List.pairwise_cons.1 hp
    have ih := freeGo_places L l (max at_ (r.1 + r.2)) hl
    rw [List.cons_append, freeGo]
    have happ : ∀ a b, runPlaces (a ++ b) = runPlaces a ++ runPlaces b := fun a b => by simp [runPlaces]
    rw [happ, ih]
    have hlow : ∀ p, p < r.1 → cov l p = false := fun p hp => by
      simp only [cov, List.any_eq_false]
      intro x hx
      have := hr x hx
      simp; omega
    -- the three parts of what is left
    have hfirst : runPlaces (if at_ < min r.1 L then [(at_, min r.1 L - at_)] else []) = (List.range' at_ (min r.1 L - at_)).filter fun p => !cov (r :: l) p := by
      rw [range'_filter_all _ _ _ (fun p h1 h2 => by
        have e1 : cov l p = false := hlow p (by omega)
        have e2 : decide (r.1 ≤ p) = false := by simp; omega
        simp only [cov, List.any_cons] at e1 ⊢
        simp [e1, e2])]
      split
      · simp [runPlaces]
      · have : min r.1 L - at_ = 0 := by omega
        simp [runPlaces, this]
    have hlast : ∀ a n, r.1 + r.2 ≤ a → (List.range' a n).filter (fun p => !cov l p) = (List.range' a n).filter (fun p => !cov (r :: l) p) := fun a n ha => by
      apply List.filter_congr
      intro p hp
      rw [List.mem_range'_1] at hp
      have : decide (p < r.1 + r.2) = false := by simp; omega
      simp [cov, this]
    rw [hfirst, hlast _ _ (by omega), ← List.filter_append]
    by_cases h1 : at_ < min r.1 L
    · -- a gap, then the run
      have hm : (List.range' (min r.1 L) (min L (max at_ (r.1 + r.2)) - min r.1 L)).filter (fun p => !cov (r :: l) p) = [] := by
        apply range'_filter_none
        intro p h1 h2
        have : decide (r.1 ≤ p) = true := by simp; omega
        have h3 : decide (p < r.1 + r.2) = true := by simp; omega
        simp [cov, this, h3]
      have e : L - at_ = (min r.1 L - at_) + ((min L (max at_ (r.1 + r.2)) - min r.1 L) + (L - max at_ (r.1 + r.2))) := by omega
      rw [e, range'_split, range'_split, List.filter_append, List.filter_append, List.filter_append]
      have e2 : at_ + (min r.1 L - at_) = min r.1 L := by omega
      rw [e2, hm, List.nil_append]
      by_cases h2 : max at_ (r.1 + r.2) ≤ L
      · have e3 : min r.1 L + (min L (max at_ (r.1 + r.2)) - min r.1 L) = max at_ (r.1 + r.2) := by omega
        rw [e3]
      · have e3 : L - max at_ (r.1 + r.2) = 0 := by omega
        rw [e3]; simp
    · have e0 : min r.1 L - at_ = 0 := by omega
      rw [e0, List.range'_zero, List.nil_append]
      have hm : (List.range' at_ (min L (max at_ (r.1 + r.2)) - at_)).filter (fun p => !cov (r :: l) p) = [] := by
        apply range'_filter_none
        intro p h3 h4
        have : decide (r.1 ≤ p) = true := by simp; omega
        have h5 : decide (p < r.1 + r.2) = true := by simp; omega
        simp [cov, this, h5]
      by_cases h2 : max at_ (r.1 + r.2) ≤ L
      · have e : L - at_ = (min L (max at_ (r.1 + r.2)) - at_) + (L - max at_ (r.1 + r.2)) := by omega
        rw [e, range'_split, List.filter_append, hm, List.nil_append]
        have e3 : at_ + (min L (max at_ (r.1 + r.2)) - at_) = max at_ (r.1 + r.2) := by omega
        rw [e3]
      · have e3 : L - max at_ (r.1 + r.2) = 0 := by omega
        have e4 : min L (max at_ (r.1 + r.2)) - at_ = L - at_ := by omega
        rw [e3, ← e4, hm]; simp

theorem freeGo_pos (L : Nat) : ∀ (l : List (Nat × Nat)) (at_ : Nat), ∀ r ∈ freeGo L l at_, 0 < r.2 ∧ r.1 + r.2 ≤ L
  | [], _, r, h => by simp [freeGo] at h
  | x :: l, at_, r, h => by
    rw [freeGo, List.mem_append] at h
    rcases h with h | h
    · split at h
      · simp at h; subst h; simp; omega
      · simp at h
    · exact freeGo_pos L l _ r h
theorem freeGo_length (L : Nat) : ∀ (l : List (Nat × Nat)) (at_ : Nat), (freeGo L l at_).length ≤ l.length
  | [], _ => by simp [freeGo]
  | x :: l, at_ => by
    rw [freeGo, List.length_append, List.length_cons]
    have := freeGo_length L l (max at_ (x.1 + x.2))
    split <;> simp <;> omega

theorem cov_perm {l m : List (Nat × Nat)} (h : l.Perm m) (p : Nat) : cov l p = cov m p := by
  unfold cov
  exact h.any_eq
end Go.Proofs.Obj
