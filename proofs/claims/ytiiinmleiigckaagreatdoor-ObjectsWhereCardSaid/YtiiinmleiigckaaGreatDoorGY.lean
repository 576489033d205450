/- What is proved here: regions that draw their order. No condition but what each theorem says. -/
import Derived.Deep.RegionHeld
set_option linter.unusedVariables false
set_option linter.unusedSimpArgs false

/- R1 -/
/-
  A region that draws its order, in which ONE operation stores into a cell that others read ahead of it: what is held of the world may hang on whether that store has come up. Of no program.
-/
namespace Go.Proofs.Obj
open Go

section
variable {P : Program} {ops : Array Oper} {Q : Exit → Act → World → Prop} {md : Region.Mode}

/-- Whatever order is picked from here on; behind each operation 'S' of what has come up by then, and of the world. -/
def AnyL (P : Program) (md : Region.Mode) (ops : Array Oper) (Q : Exit → Act → World → Prop) (S : Array Bool → World → Prop) (fuel : Nat) (listed : Array Bool) (a : Act) (w : World) : Prop :=
  match fuel with
  | 0 => Region.ready md ops listed = [] ∧ Q .normal a w
  | n + 1 => (Region.ready md ops listed = [] → Q .normal a w) ∧ ∀ i ∈ Region.ready md ops listed, wpOp P ops Q i (fun b u => S (listed.setIfInBounds i true) u ∧ AnyL P md ops Q S n (listed.setIfInBounds i true) b u) a w

variable {S : Array Bool → World → Prop}

theorem any_of_L : ∀ (fuel : Nat) (listed : Array Bool) (a : Act) (w : World), AnyL P md ops Q S fuel listed a w → wpAny P md ops Q fuel listed a w := by
  intro fuel
  induction fuel with
  | zero => exact fun _ _ _ h => h
  | succ n ih => exact fun _ _ _ h => ⟨h.1, fun i hi => wpOp_mono (fun b u hb => ih _ b u hb.2) (h.2 i hi)⟩

theorem notListed {j i : Nat} {listed : Array Bool} {oj : Oper} (hoj : ops[j]? = some oj) (hj : j ∈ Region.ready md ops listed) (hi : listed.getD i true = false) : ∀ e ∈ oj.after, Region.binds md e = true → e.on ≠ i := by
  intro e he hb heq
  obtain ⟨_, o, ho, hall⟩ := mem_ready.1 hj
  obtain rfl : o = oj := Option.some.inj (ho.symm.trans hoj)
  have h1 := hall e he hb
  rw [heq] at h1
  rcases Nat.lt_or_ge i listed.size with h' | h'
  · simp [h'] at hi h1
    rw [hi] at h1; cases h1
  · simp [Array.getElem?_eq_none h'] at h1

/-- An operation may be taken first that yields in every world of T, where S and R give T as long as it has not come up. -/
theorem takeL {i : Nat} {oi : Oper} {v : Value} {T : World → Prop} {R : Array Bool → Prop} (hi : ops[i]? = some oi) (hsel : ∀ (j : Nat) (o : Oper) cs b, ops[j]? = some o → o.op ≠ .select cs b)
    (hQ : ∀ c a w, Q (.panic c) (a.put oi.dst v) w → Q (.panic c) a w) (hT : ∀ l w, R l → S l w → T w) (hE : ∀ l w, S (l.setIfInBounds i true) w ↔ S l w)
    (hR : ∀ l j, R l → j ≠ i → l.getD i true = false → j ∈ Region.ready md ops l → R (l.setIfInBounds j true)) :
    ∀ (fuel : Nat) (listed : Array Bool) (a : Act) (w : World),
      (∀ j oj, ops[j]? = some oj → j ≠ i → listed.getD j true = false → (∀ e ∈ oj.after, Region.binds md e = true → e.on ≠ i) → oi.apart ops oj = true) →
      i ∈ Region.ready md ops listed → YieldsIf P ops T oi v a → S listed w → R listed →
      AnyL P md ops Q S fuel (listed.setIfInBounds i true) (a.put oi.dst v) w → AnyL P md ops Q S (fuel + 1) listed a w := by
  intro fuel
  induction fuel with
  | zero =>
    intro listed a w _ hr hy hS hRl H
    refine ⟨fun h => absurd (h ▸ hr) List.not_mem_nil, fun j hj => ?_⟩
    by_cases hji : j = i
    · subst hji
      exact hy.wpOp hi (hT _ _ hRl hS) ⟨(hE _ _).2 hS, H⟩
    · exact absurd (H.1 ▸ ready_mono hj hji) List.not_mem_nil
  | succ fuel ih =>
    intro listed a w hfree hr hy hS hRl H
    refine ⟨fun h => absurd (h ▸ hr) List.not_mem_nil, fun j hj => ?_⟩
    by_cases hji : j = i
    · subst hji
      exact hy.wpOp hi (hT _ _ hRl hS) ⟨(hE _ _).2 hS, H⟩
    · obtain ⟨hjun, oj, hoj, _⟩ := mem_ready.1 hj
      have hiun := (mem_ready.1 hr).1
      have hap := hfree j oj hoj hji hjun (notListed hoj hj hiun)
      refine wpOp_mono (fun b u hb => ?_) (wpOp_putIf hoj hap (fun cs b => hsel i oi cs b hi) (fun cs b => hsel j oj cs b hoj) hQ hy (H.2 j (ready_mono hj hji)))
      obtain ⟨hb1, hb2, hb3⟩ := hb
      rw [Array.setIfInBounds_comm _ _ (fun e => hji e.symm)] at hb2 hb3
      have hSj := (hE _ _).1 hb2
      refine ⟨hSj, ih _ b u (fun k ok hk hki hun hno => hfree k ok hk hki ?_ hno) (ready_mono hr (Ne.symm hji)) hb1 hSj (hR _ _ hRl hji hiun hj) hb3⟩
      by_cases hjk : j = k
      · subst hjk; exact hjun
      · rwa [getD_set_ne true hjk] at hun

/-- S0 all along; S1 till operation k has come up. -/
def SK (S0 S1 : World → Prop) (k : Nat) : Array Bool → World → Prop := fun l w => S0 w ∧ (l.getD k true = false → S1 w)
variable {S0 S1 : World → Prop} {k : Nat}
theorem SK.of_set {i : Nat} (hik : i ≠ k) (l : Array Bool) (w : World) : SK S0 S1 k (l.setIfInBounds i true) w ↔ SK S0 S1 k l w := by
  unfold SK; rw [getD_set_ne true hik]
theorem SK.both {w : World} (h0 : S0 w) (h1 : S1 w) (l : Array Bool) : SK S0 S1 k l w := ⟨h0, fun _ => h1⟩
theorem SK.late {l : Array Bool} {w : World} (h0 : S0 w) (h : l.getD k true = true) : SK S0 S1 k l w := ⟨h0, fun e => by rw [h] at e; cases e⟩

/-- Does operation k wait for operation i? -/
def waitsFor (md : Region.Mode) (ops : Array Oper) (k i : Nat) : Bool := match ops[k]? with | some o => o.after.any fun e => Region.binds md e && e.on == i | none => true

/-- Take number i first: it reads what S0 tells. -/
theorem takeK0 {i : Nat} {oi : Oper} {v : Value} {fuel : Nat} {listed : Array Bool} {a : Act} {w : World} (hi : ops[i]? = some oi)
    (hs : Region.noSelect ops = true) (hf : Region.free md ops listed i = true) (hr : (Region.ready md ops listed).contains i = true) (hik : (i == k) = false)
    (hQ : ∀ c a w, Q (.panic c) (a.put oi.dst v) w → Q (.panic c) a w) (hy : YieldsIf P ops S0 oi v a) (hS : SK S0 S1 k listed w)
    (h : SK S0 S1 k (listed.setIfInBounds i true) w → AnyL P md ops Q (SK S0 S1 k) fuel (listed.setIfInBounds i true) (a.put oi.dst v) w) : AnyL P md ops Q (SK S0 S1 k) (fuel + 1) listed a w :=
  have hne : i ≠ k := fun e => by simp [e] at hik
  takeL (T := S0) (R := fun _ => True) hi (Region.noSelect_spec hs) hQ (fun _ _ _ h => h.1) (fun l w => SK.of_set hne l w) (fun _ _ _ _ _ _ => trivial) fuel listed a w (Region.free_spec hi hf) (by simpa using hr) hy hS trivial (h ((SK.of_set hne _ _).2 hS))

/-- Take number i first: it reads what S0 and S1 tell; number k, not come up yet, waits for it. -/
theorem takeK1 {i : Nat} {oi : Oper} {v : Value} {fuel : Nat} {listed : Array Bool} {a : Act} {w : World} (hi : ops[i]? = some oi)
    (hs : Region.noSelect ops = true) (hf : Region.free md ops listed i = true) (hr : (Region.ready md ops listed).contains i = true) (hik : (i == k) = false) (hw : waitsFor md ops k i = true) (hk : listed.getD k true = false)
    (hQ : ∀ c a w, Q (.panic c) (a.put oi.dst v) w → Q (.panic c) a w) (hy : YieldsIf P ops (fun w => S0 w ∧ S1 w) oi v a) (hS : SK S0 S1 k listed w)
    (h : SK S0 S1 k (listed.setIfInBounds i true) w → AnyL P md ops Q (SK S0 S1 k) fuel (listed.setIfInBounds i true) (a.put oi.dst v) w) : AnyL P md ops Q (SK S0 S1 k) (fuel + 1) listed a w := by
  have hne : i ≠ k := fun e => by simp [e] at hik
  refine takeL (T := fun w => S0 w ∧ S1 w) (R := fun l => l.getD k true = false) hi (Region.noSelect_spec hs) hQ (fun _ _ hR h => ⟨h.1, h.2 hR⟩) (fun l w => SK.of_set hne l w) (fun l j hR hji hiun hj => ?_) fuel listed a w (Region.free_spec hi hf) (by simpa using hr) hy hS hk (h ((SK.of_set hne _ _).2 hS))
  by_cases hjk : j = k
  · subst hjk
    obtain ⟨_, oj, hoj, _⟩ := mem_ready.1 hj
    have hno := notListed hoj hj hiun
    unfold waitsFor at hw
    rw [hoj] at hw
    dsimp only at hw
    obtain ⟨e, he, hb⟩ := Array.any_eq_true'.1 hw
    rw [Bool.and_eq_true] at hb
    exact absurd (by simpa using hb.2) (hno e he hb.1)
  · rwa [getD_set_ne true hjk]

/-- One operation alone may come up. -/
theorem readyL {i : Nat} {o : Oper} {fuel : Nat} {listed : Array Bool} {a : Act} {w : World} (hr : Region.ready md ops listed = [i]) (ho : ops[i]? = some o)
    (h : ∀ K : Act → World → Prop, Shut (∀ a w, S (listed.setIfInBounds i true) w → (S (listed.setIfInBounds i true) w → AnyL P md ops Q S fuel (listed.setIfInBounds i true) a w) → K a w) → if Region.wanted o (yielded ops a.tmps) = true then Oper.wp P o a w K Q else K (a.put o.dst undef) w) : AnyL P md ops Q S (fuel + 1) listed a w := by
  refine ⟨fun h0 => absurd (hr.symm.trans h0) (by simp), fun j hj => ?_⟩
  rw [hr, List.mem_singleton] at hj
  subst hj
  exact wpOp_step ho (fun K hK => h K (fun a w hS hW => hK a w ⟨hS, hW hS⟩))

/-- One of two may come up. -/
theorem readyL2 {i j : Nat} {oi oj : Oper} {fuel : Nat} {listed : Array Bool} {a : Act} {w : World} (hr : Region.ready md ops listed = [i, j]) (hi : ops[i]? = some oi) (hj : ops[j]? = some oj)
    (h1 : ∀ K : Act → World → Prop, Shut (∀ a w, S (listed.setIfInBounds i true) w → (S (listed.setIfInBounds i true) w → AnyL P md ops Q S fuel (listed.setIfInBounds i true) a w) → K a w) → if Region.wanted oi (yielded ops a.tmps) = true then Oper.wp P oi a w K Q else K (a.put oi.dst undef) w)
    (h2 : ∀ K : Act → World → Prop, Shut (∀ a w, S (listed.setIfInBounds j true) w → (S (listed.setIfInBounds j true) w → AnyL P md ops Q S fuel (listed.setIfInBounds j true) a w) → K a w) → if Region.wanted oj (yielded ops a.tmps) = true then Oper.wp P oj a w K Q else K (a.put oj.dst undef) w) : AnyL P md ops Q S (fuel + 1) listed a w := by
  refine ⟨fun h0 => absurd (hr.symm.trans h0) (by simp), fun n hn => ?_⟩
  rw [hr] at hn
  rcases List.mem_cons.1 hn with rfl | hn
  · exact wpOp_step hi (fun K hK => h1 K (fun a w hS hW => hK a w ⟨hS, hW hS⟩))
  · rw [List.mem_singleton] at hn
    subst hn
    exact wpOp_step hj (fun K hK => h2 K (fun a w hS hW => hK a w ⟨hS, hW hS⟩))

theorem doneL {listed : Array Bool} {a : Act} {w : World} (hr : Region.ready md ops listed = []) (h : Q .normal a w) : ∀ fuel, AnyL P md ops Q S fuel listed a w
  | 0 => ⟨hr, h⟩
  | _ + 1 => ⟨fun _ => h, by rw [hr]; simp⟩

/-- THE RULE. -/
theorem regionL {id : Nat} {a : Act} {w : World} (S0 S1 : World → Prop) (k : Nat) (hm : P.follows .mixedOrders = true) (h0 : S0 w.drew) (h1 : S1 w.drew)
    (h : SK S0 S1 k (Array.replicate ops.size false) w.drew → AnyL P .any ops Q (SK S0 S1 k) ops.size (Array.replicate ops.size false) a w.drew) : (Code.region id ops true).wp P Q a w :=
  wp_region_any hm (any_of_L _ _ _ _ (h ⟨h0, fun _ => h1⟩))
end
end Go.Proofs.Obj
