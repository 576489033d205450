/- What is proved here: a rule for a range over a function. No condition but what each theorem says. -/
import Derived.Test.YtiiinmleiigckaaGreatDoorGE
import Derived.RangeFuncLeaves
import Derived.RangeFuncRecord
import Derived.RangeFuncSeq
set_option linter.unusedVariables false
set_option linter.unusedSimpArgs false

/- I1 -/
/-
  A range over a function, said with the blocks that the loop's body may write.
-/
namespace Go.Proofs.Obj
open Go Go.RowKit

section
variable {α : Type} {P : Program}

/-- J abides whatever is written from base on, but for what the body owns. -/
def Stab (base : Nat) (J : List α → (Nat → Prop) → World → Prop) : Prop := ∀ pre M A B, J pre M A → Chg (fun k => base ≤ k ∧ ¬ M k) A B → J pre M B

/-- What a body owns behind a round: what it owned, and blocks that have come since. -/
def Grew (M : Nat → Prop) (W : World) (M' : Nat → Prop) (W' : World) : Prop := ∀ k, M' k → M k ∨ (W.heap.size ≤ k ∧ k < W'.heap.size)

theorem Grew.keep (M : Nat → Prop) (W W' : World) : Grew M W M W' := fun _ h => .inl h
/-- A round's end. -/
def YPost (J Jx : List α → (Nat → Prop) → World → Prop) (pre : List α) (x : α) (M : Nat → Prop) (W : World) (e : Ending) (W' : World) : Prop :=
  ∃ M', Grew M W M' W' ∧ Chg M W W' ∧ ((e = .returned (.bool true) ∧ J (pre ++ [x]) M' W') ∨ (e = .returned (.bool false) ∧ Jx (pre ++ [x]) M' W'))

/-- A function that hands xs to yield, one by one; it reads the blocks T, and writes only what it has made itself. -/
def Iter (P : Program) (g : Nat) (lb : Array Value) (encs : α → Array Value) (T : Nat → Prop) (xs : List α) (w : World) : Prop :=
  ∀ (l : Nat) (J Jx : List α → (Nat → Prop) → World → Prop) (S : Nat → Prop) (W : World), Same w W → (∀ k, S k → k < W.heap.size ∧ ¬ T k) → Stab W.heap.size J → Stab W.heap.size Jx →
    (∀ pre x suf M W1, xs = pre ++ x :: suf → W.heap.size ≤ W1.heap.size → (∀ k, M k → k < W1.heap.size) → J pre M W1 → YieldAt Fence.wide 0 P l (encs x) W1 (YPost J Jx pre x M W1)) →
    J [] S W →
    Calls P g (#[.func (.yield l) #[] #[]] ++ lb) W fun e W' => e = .returned (.tuple #[]) ∧ ∃ M', Grew S W M' W' ∧ Chg S W W' ∧ (J xs M' W' ∨ ∃ pre, pre <+: xs ∧ Jx pre M' W')

/-- How a body may be left. -/
def BPost (I : List α → (Nat → Prop) → World → Prop) (Ix : Code → List α → (Nat → Prop) → World → Prop) (pre : List α) (x : α) (M : Nat → Prop) (W : World) : Exit → Act → World → Prop
  | .normal, _, W' => ∃ M', Grew M W M' W' ∧ Chg M W W' ∧ I (pre ++ [x]) M' W'
  | .ret, _, W' => ∃ M', Grew M W M' W' ∧ Chg M W W' ∧ Ix .ret (pre ++ [x]) M' W'
  | .exit id, _, W' => ∃ M', Grew M W M' W' ∧ Chg M W W' ∧ Ix (.exit id) (pre ++ [x]) M' W'
  | _, _, _ => False

theorem Chg.putObj {S : Nat → Prop} {a w : World} (h : Chg S a w) (l : Nat) (o : Obj) (hl : l < a.heap.size → S l) : Chg S a (w.putObj l o) :=
  h.trans' (T := fun k => k = l) ⟨rfl, rfl, rfl, by simp, fun k _ hn => World.putObj_heap_other hn⟩ (fun _ _ h => h) (fun j hj e => by cases e; exact hl hj)

theorem range_rule {g : Operand} {ps : Array Tmp} {assign body : Code} {Q : Exit → Act → World → Prop} {a : Act} {w : World} {gf : Nat} {lb : Array Value}
    (hg : a.eval g = .func (.func gf) #[] lb) (eg : ∀ args w, (callFunc gf args).run P w = .ok (.enter gf args) w)
    {encs : α → Array Value} {T : Nat → Prop} {xs : List α} (hit : Iter P gf lb encs T xs w) (hT : ∀ k, T k → k < w.heap.size) (hps : ∀ x, (encs x).size = ps.size)
    (S : Nat → Prop) (hS : ∀ k, S k → k < w.heap.size ∧ ¬ T k)
    (I : List α → (Nat → Prop) → World → Prop) (Ix : Code → List α → (Nat → Prop) → World → Prop) (hI : Stab w.heap.size I) (hIx : ∀ c, Stab w.heap.size (Ix c)) (h0 : I [] S w)
    (hround : ∀ (l : Nat) (pre : List α) (x : α) (suf : List α) (M : Nat → Prop) (W : World), xs = pre ++ x :: suf → w.heap.size ≤ l → l < W.heap.size → ¬ M l → (∀ k, M k → k < W.heap.size) → Grew S w M W → Chg S w W → I pre M W →
      ∀ K : Act → World → Prop, (∀ a' W', Same W W' → (∀ W'', Chg (fun k => k = l) W' W'' → I pre M W'' → body.wpIn (Fence.wide.inRound l) 0 P (BPost I Ix pre x M W'') a' W'') → K a' W') →
      assign.wpIn (Fence.wide.inRound l) 0 P (Exit.then K (fun _ _ _ => False)) { tmps := (ps.zip (encs x)).foldl (fun t (p, v) => t.setIfInBounds p v) a.tmps, defers := [] } W)
    (hdone : ∀ (D : Nat) (M : Nat → Prop) (W : World), w.heap.size ≤ D → W.heap[D]? = some (.deferred (some [])) → ¬ M D → Grew S w M W → Chg S w W → I xs M W → Q .normal { a with defers := { target := .collected D, args := #[] } :: a.defers } W)
    (hstop : ∀ (D : Nat) (c : Code) (pre : List α) (M : Nat → Prop) (W : World), w.heap.size ≤ D → W.heap[D]? = some (.deferred (some [])) → ¬ M D → Grew S w M W → Chg S w W → pre <+: xs → Ix c pre M W →
      c.wpIn Fence.wide 0 P Q { a with defers := { target := .collected D, args := #[] } :: a.defers } W) :
    (Code.rangeFunc g ps assign body).wpIn Fence.wide 0 P Q a w := by
  refine wpIn_rangeFunc ?_
  intro fn _
  obtain ⟨rec, hrec⟩ : ∃ rec : LoopState → Option Code → Loop, rec = fun st pe => { state := st, pending := pe, fn, tmps := a.tmps, params := ps, assign, body, defers := w.heap.size } := ⟨_, rfl⟩
  obtain ⟨W1, hW1⟩ : ∃ W1, (w.alloc (.deferred (some []))).alloc (.loop (rec .ready none)) = W1 := ⟨_, rfl⟩
  have hsz : W1.heap.size = w.heap.size + 2 := by rw [← hW1]; simp
  have hsame : Same w W1 := by rw [← hW1]; exact ((Chg.refl _ w).alloc _).alloc _
  have hL1 : W1.heap[w.heap.size + 1]? = some (.loop (rec .ready none)) := by
    rw [← hW1]; have := World.alloc_heap_new (w.alloc (.deferred (some []))) (.loop (rec .ready none)); rwa [World.size_alloc] at this
  have hK1 : W1.heap[w.heap.size]? = some (.deferred (some [])) := by
    rw [← hW1]; exact (Below.heap_alloc _ _ _ (by simp)).trans (World.alloc_heap_new w _)
  have hIW : I [] S W1 := hI [] S w W1 h0 (Chg.of_same hsame)
  refine ⟨w.heap.size + 1, [{ target := .collected w.heap.size, args := #[] }], W1, { target := .fn (.func gf) lb, args := #[.func (.yield (w.heap.size + 1)) #[] #[]] }, W1, gf,
    #[.func (.yield (w.heap.size + 1)) #[] #[]] ++ lb, W1, ?_, ?_, fun _ _ => trivial, ?_, fun h => by simp [Fence.wide] at h, ?_⟩
  · rw [← hW1, hrec]; exact run_enterLoop_outer _ _ _ _ _
  · simp only [resolve, hg]
    simp [go_sem]
  · simp [invoke, go_sem, eg]
  refine callsIn_wide.2 ?_
  refine (hit (w.heap.size + 1)
    (fun pre Mi W => ∃ M, (∀ k, Mi k ↔ M k ∨ k = w.heap.size + 1) ∧ ¬ M (w.heap.size + 1) ∧ ¬ M w.heap.size ∧ (Grew S w M W ∧ Chg S w W) ∧ I pre M W ∧ W.heap[w.heap.size + 1]? = some (.loop (rec .ready none)) ∧ W.heap[w.heap.size]? = some (.deferred (some [])))
    (fun pre Mi W => ∃ M c, (∀ k, Mi k ↔ M k ∨ k = w.heap.size + 1) ∧ ¬ M (w.heap.size + 1) ∧ ¬ M w.heap.size ∧ (Grew S w M W ∧ Chg S w W) ∧ Ix c pre M W ∧ W.heap[w.heap.size + 1]? = some (.loop (rec .done (some c))) ∧ W.heap[w.heap.size]? = some (.deferred (some [])))
    (fun k => S k ∨ k = w.heap.size + 1) W1 hsame ?_ ?_ ?_ ?_ ?_).mono ?_
  · rintro k (h | rfl)
    · exact ⟨by have := (hS k h).1; omega, (hS k h).2⟩
    · exact ⟨by omega, fun h => by have := hT _ h; omega⟩
  · rintro pre Mi A B ⟨M, hM, hMl, hMD, ⟨hg1, hg2⟩, hi, hl, hk⟩ hc
    refine ⟨M, hM, hMl, hMD, ⟨fun k h => (hg1 k h).imp id (fun h => ⟨h.1, Nat.lt_of_lt_of_le h.2 hc.size⟩), hg2.trans' hc (fun _ _ h => h) (fun j hj h => by omega)⟩, hI _ _ _ _ hi (hc.mono (fun k _ h => ⟨by omega, fun h' => h.2 ((hM k).2 (.inl h'))⟩)), hc.at_ hl (fun h => by omega), hc.at_ hk (fun h => by omega)⟩
  · rintro pre Mi A B ⟨M, c, hM, hMl, hMD, ⟨hg1, hg2⟩, hi, hl, hk⟩ hc
    refine ⟨M, c, hM, hMl, hMD, ⟨fun k h => (hg1 k h).imp id (fun h => ⟨h.1, Nat.lt_of_lt_of_le h.2 hc.size⟩), hg2.trans' hc (fun _ _ h => h) (fun j hj h => by omega)⟩, hIx c _ _ _ _ hi (hc.mono (fun k _ h => ⟨by omega, fun h' => h.2 ((hM k).2 (.inl h'))⟩)), hc.at_ hl (fun h => by omega), hc.at_ hk (fun h => by omega)⟩
  · -- one round
    rintro pre x suf Mi W hx hW hMi ⟨M, hM, hMl, hMD, ⟨hg1, hg2⟩, hi, hl, hk⟩
    have hlt : w.heap.size + 1 < W.heap.size := lt_of_at hl
    have hy := run_yield (P := P) (args := encs x) hl (by rw [hrec]; exact hps x)
    rw [hrec] at hy
    refine ⟨fn, _, assign, body, hy, roundIn_of_wpIn trivial (hround _ pre x suf M W hx (by omega) hlt hMl (fun k h => hMi k ((hM k).2 (.inl h))) hg1 hg2 hi _ ?_)⟩
    intro a' W' hs hb
    have hl' := hs.at_ hl (fun h => h)
    have hk' := hs.at_ hk (fun h => h)
    refine ⟨_, run_beginRound hl' (by rw [hrec]), ?_⟩
    have hlt' : w.heap.size + 1 < W'.heap.size := lt_of_at hl'
    have hl2 : (W'.putObj (w.heap.size + 1) (.loop { rec .ready none with state := .busy })).heap[w.heap.size + 1]? = some (.loop { rec .ready none with state := .busy }) := World.putObj_heap_same hlt'
    have hk2 : (W'.putObj (w.heap.size + 1) (.loop { rec .ready none with state := .busy })).heap[w.heap.size]? = some (.deferred (some [])) := (World.putObj_heap_other (by omega)).trans hk'
    have hc2 : Chg (fun k => k = w.heap.size + 1) W' (W'.putObj (w.heap.size + 1) (.loop { rec .ready none with state := .busy })) := (Chg.refl _ _).putObj _ _ (fun _ => rfl)
    have hi2 : I pre M (W'.putObj (w.heap.size + 1) (.loop { rec .ready none with state := .busy })) :=
      hI _ _ _ _ (hI _ _ _ _ hi (Chg.of_same hs)) (hc2.mono (fun k _ e => ⟨by omega, by rw [e]; exact hMl⟩))
    have hcW : Chg Mi W (W'.putObj (w.heap.size + 1) (.loop { rec .ready none with state := .busy })) := (Chg.of_same hs).trans (hc2.mono (fun k _ e => (hM k).2 (.inr e)))
    refine wpIn_mono (hb _ hc2 hi2) ?_
    have hg3 : Chg S w (W'.putObj (w.heap.size + 1) (.loop { rec .ready none with state := .busy })) := ((hg2.then_same hs).trans' hc2 (fun _ _ h => h) (fun j hj h => by omega))
    have hsz2 : (W'.putObj (w.heap.size + 1) (.loop { rec .ready none with state := .busy })).heap.size = W'.heap.size := by simp
    clear hb hi hi2 hl hk hl' hk' hc2 hy
    generalize W'.putObj (w.heap.size + 1) (.loop { rec .ready none with state := .busy }) = X at *
    have fin : ∀ (jump : Option Code) (M' : Nat → Prop) (W3 : World), Grew M X M' W3 → Chg M X W3 →
        (Instr.endRound (w.heap.size + 1) jump).run P W3 = .ok (.bool jump.isNone) (W3.putObj (w.heap.size + 1) (.loop (rec (if jump.isNone then .ready else .done) jump))) ∧
        (W3.putObj (w.heap.size + 1) (.loop (rec (if jump.isNone then .ready else .done) jump))).heap[w.heap.size + 1]? = some (.loop (rec (if jump.isNone then .ready else .done) jump)) ∧
        (W3.putObj (w.heap.size + 1) (.loop (rec (if jump.isNone then .ready else .done) jump))).heap[w.heap.size]? = some (.deferred (some [])) ∧
        ¬ M' (w.heap.size + 1) ∧ ¬ M' w.heap.size ∧
        Grew Mi W (fun k => M' k ∨ k = w.heap.size + 1) (W3.putObj (w.heap.size + 1) (.loop (rec (if jump.isNone then .ready else .done) jump))) ∧
        Chg Mi W (W3.putObj (w.heap.size + 1) (.loop (rec (if jump.isNone then .ready else .done) jump))) ∧
        Chg (fun k => w.heap.size ≤ k ∧ ¬ M' k) W3 (W3.putObj (w.heap.size + 1) (.loop (rec (if jump.isNone then .ready else .done) jump))) ∧
        Grew S w M' (W3.putObj (w.heap.size + 1) (.loop (rec (if jump.isNone then .ready else .done) jump))) ∧ Chg S w (W3.putObj (w.heap.size + 1) (.loop (rec (if jump.isNone then .ready else .done) jump))) := fun jump M' W3 hgr hch => by
      have hl3 := hch.at_ hl2 hMl
      have hk3 := hch.at_ hk2 hMD
      have hlt3 := lt_of_at hl3
      have hnl : ¬ M' (w.heap.size + 1) := fun h => by
        rcases hgr _ h with h | h
        · exact hMl h
        · have := lt_of_at hl2; omega
      have hnD : ¬ M' w.heap.size := fun h => by
        rcases hgr _ h with h | h
        · exact hMD h
        · have := lt_of_at hl2; omega
      have hr := run_endRound (P := P) jump hl3
      rw [hrec] at hr ⊢
      have hs2 := hs.size
      refine ⟨hr, World.putObj_heap_same hlt3, (World.putObj_heap_other (by omega)).trans hk3, hnl, hnD, ?_, ?_, (Chg.refl _ _).putObj _ _ (fun _ => ⟨by omega, hnl⟩), ?_, ?_⟩
      · rintro k (h | rfl)
        · rcases hgr k h with h | ⟨h1, h2⟩
          · exact .inl ((hM k).2 (.inl h))
          · exact .inr ⟨by omega, by simpa using h2⟩
        · exact .inl ((hM _).2 (.inr rfl))
      · exact (hcW.trans (hch.mono (fun k _ h => (hM k).2 (.inl h)))).putObj _ _ (fun _ => (hM _).2 (.inr rfl))
      · intro k h
        rcases hgr k h with h | ⟨h1, h2⟩
        · exact (hg1 k h).imp id (fun h' => ⟨h'.1, by have := hch.size; simp; omega⟩)
        · exact .inr ⟨by omega, by simpa using h2⟩
      · refine (hg3.trans' hch (fun _ _ h => h) (fun j hj h => ?_)).putObj _ _ (fun h => by omega)
        rcases hg1 j h with h | h
        · exact h
        · omega
    rintro e a3 W3 hp
    cases e with
    | normal =>
      obtain ⟨M', hgr, hch, hi3⟩ := hp
      obtain ⟨hr, hl4, hk4, hnl, hnD, hg4, hc4, hc5, hg6, hc6⟩ := fin none M' W3 hgr hch
      exact ⟨_, _, hr, _, hg4, hc4, .inl ⟨rfl, M', fun k => Iff.rfl, hnl, hnD, ⟨hg6, hc6⟩, hI _ _ _ _ hi3 hc5, hl4, hk4⟩⟩
    | ret =>
      obtain ⟨M', hgr, hch, hi3⟩ := hp
      obtain ⟨hr, hl4, hk4, hnl, hnD, hg4, hc4, hc5, hg6, hc6⟩ := fin (some .ret) M' W3 hgr hch
      exact ⟨_, _, hr, _, hg4, hc4, .inr ⟨rfl, M', .ret, fun k => Iff.rfl, hnl, hnD, ⟨hg6, hc6⟩, hIx _ _ _ _ _ hi3 hc5, hl4, hk4⟩⟩
    | exit id =>
      obtain ⟨M', hgr, hch, hi3⟩ := hp
      obtain ⟨hr, hl4, hk4, hnl, hnD, hg4, hc4, hc5, hg6, hc6⟩ := fin (some (.exit id)) M' W3 hgr hch
      exact ⟨_, _, hr, _, hg4, hc4, .inr ⟨rfl, M', .exit id, fun k => Iff.rfl, hnl, hnD, ⟨hg6, hc6⟩, hIx _ _ _ _ _ hi3 hc5, hl4, hk4⟩⟩
    | goto t => exact hp.elim
    | panic ch => exact hp.elim
    | outgrown => exact hp.elim
  · exact ⟨S, fun k => Iff.rfl, fun h => by have := (hS _ h).1; omega, fun h => by have := (hS _ h).1; omega, ⟨fun _ h => .inl h, Chg.of_same hsame⟩, hIW, hL1, hK1⟩
  · -- behind the iterator
    rintro e W2 ⟨rfl, Mi, hgr, hch, (⟨M, hM, hMl, hMD, _, hi, hl, hk⟩ | ⟨pre, hpre, M, c, hM, hMl, hMD, _, hi, hl, hk⟩)⟩
    · have hlt := lt_of_at hl
      have hc5 : ∀ o, Chg (fun k => w.heap.size ≤ k ∧ ¬ M k) W2 (W2.putObj (w.heap.size + 1) o) := fun o => (Chg.refl _ _).putObj _ _ (fun _ => ⟨by omega, hMl⟩)
      refine ⟨none, _, by have := run_endLoop (P := P) hl (by rw [hrec]; simp); rw [hrec] at this; exact this, hdone _ M _ (Nat.le_refl _) ((World.putObj_heap_other (by omega)).trans hk) hMD ?_ ?_ (hI _ _ _ _ hi (hc5 _))⟩
      · intro k h
        rcases hgr k ((hM k).2 (.inl h)) with (h' | h') | h'
        · exact .inl h'
        · exact absurd (h' ▸ h) hMl
        · exact .inr ⟨by omega, by simpa using h'.2⟩
      · exact (Chg.after_same hsame hch |>.trans' (T := fun k => k = w.heap.size + 1) ((Chg.refl _ _).putObj _ _ (fun _ => rfl)) (fun j hj h => by rcases h with h | rfl; exact h; omega) (fun j hj h => by omega))
    · have hlt := lt_of_at hl
      have hc5 : ∀ o, Chg (fun k => w.heap.size ≤ k ∧ ¬ M k) W2 (W2.putObj (w.heap.size + 1) o) := fun o => (Chg.refl _ _).putObj _ _ (fun _ => ⟨by omega, hMl⟩)
      refine ⟨some c, _, by have := run_endLoop (P := P) hl (by rw [hrec]; simp); rw [hrec] at this; exact this, hstop _ c pre M _ (Nat.le_refl _) ((World.putObj_heap_other (by omega)).trans hk) hMD ?_ ?_ hpre (hIx c _ _ _ _ hi (hc5 _))⟩
      · intro k h
        rcases hgr k ((hM k).2 (.inl h)) with (h' | h') | h'
        · exact .inl h'
        · exact absurd (h' ▸ h) hMl
        · exact .inr ⟨by omega, by simpa using h'.2⟩
      · exact (Chg.after_same hsame hch |>.trans' (T := fun k => k = w.heap.size + 1) ((Chg.refl _ _).putObj _ _ (fun _ => rfl)) (fun j hj h => by rcases h with h | rfl; exact h; omega) (fun j hj h => by omega))

/-- At the end of a function with such a loop: the block for the rounds' deferred calls is shut. -/
theorem leave_loop {fn : Func} {R : Ending → World → Prop} {D : Nat} {W : World} {tmps : Array Value} {v : Value} {e : Exit} (he : e = .normal ∨ e = .ret)
    (hD : W.heap[D]? = some (.deferred (some []))) (hr : ∀ W' : World, Chg (fun k => k = D) W W' → (results fn tmps).run P W' = .ok v W') (hR : ∀ W' : World, Chg (fun k => k = D) W W' → R (.returned v) W') :
    bodyPostM Fence.wide 0 P fn R e { tmps := tmps, defers := [{ target := .collected D, args := #[] }] } W := by
  have hc : Chg (fun k => k = D) W (W.putObj D (.deferred none)) := (Chg.refl _ _).putObj _ _ (fun _ => rfl)
  rcases he with rfl | rfl
  · exact ⟨by simp, .inl ⟨_, _, rfl, run_takeDeferred hD, ⟨_, hr _ hc, hR _ hc⟩⟩⟩
  · exact ⟨by simp, .inl ⟨_, _, rfl, run_takeDeferred hD, ⟨_, hr _ hc, hR _ hc⟩⟩⟩
end
end Go.Proofs.Obj
