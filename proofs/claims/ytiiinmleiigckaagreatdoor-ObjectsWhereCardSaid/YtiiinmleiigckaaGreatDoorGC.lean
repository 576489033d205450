/- What is proved here: plain words on worlds. No condition but what each theorem says. -/
import Derived.WalkKit
import Derived.Below
import Derived.Lib.Hide
import Derived.Deep.Draws
import Derived.Deep.AppendLies
import Derived.Maps.AppendAt
import Derived.RangeFuncBox
import Derived.Maps.OwnIn
set_option linter.unusedVariables false
set_option linter.unusedSimpArgs false

/- O1 -/
/-
  Plain words on worlds: what a call changes, and what stays; blocks as they lie. Of no program.
-/
namespace Go.Proofs.Obj
open Go Go.RowKit

/-- What a call changes: of the blocks that lay there only those of which S holds. -/
structure Chg (S : Nat → Prop) (w w' : World) : Prop where
  os : w'.os = w.os
  tape : w'.tape = w.tape
  output : w'.output = w.output
  size : w.heap.size ≤ w'.heap.size
  block : ∀ k, k < w.heap.size → ¬ S k → w'.heap[k]? = w.heap[k]?

/-- Nothing that lay there. -/
abbrev Same := Chg (fun _ => False)

theorem Chg.refl (S : Nat → Prop) (w : World) : Chg S w w := ⟨rfl, rfl, rfl, Nat.le_refl _, fun _ _ _ => rfl⟩
theorem Chg.mono {S T : Nat → Prop} {w w' : World} (h : Chg S w w') (hs : ∀ k, k < w.heap.size → S k → T k) : Chg T w w' :=
  ⟨h.os, h.tape, h.output, h.size, fun k hk hn => h.block k hk (fun hS => hn (hs k hk hS))⟩
theorem Chg.of_same {S : Nat → Prop} {w w' : World} (h : Same w w') : Chg S w w' := h.mono (fun _ _ hf => hf.elim)
theorem Chg.trans' {S T U : Nat → Prop} {a b c : World} (h : Chg S a b) (k : Chg T b c) (h1 : ∀ j, j < a.heap.size → S j → U j) (h2 : ∀ j, j < a.heap.size → T j → U j) : Chg U a c :=
  ⟨k.os.trans h.os, k.tape.trans h.tape, k.output.trans h.output, Nat.le_trans h.size k.size,
   fun j hj hn => (k.block j (Nat.lt_of_lt_of_le hj h.size) (fun hT => hn (h2 j hj hT))).trans (h.block j hj (fun hS => hn (h1 j hj hS)))⟩
theorem Chg.trans {S : Nat → Prop} {a b c : World} (h : Chg S a b) (k : Chg S b c) : Chg S a c := h.trans' k (fun _ _ h => h) (fun _ _ h => h)
theorem Chg.then_same {S : Nat → Prop} {a b c : World} (h : Chg S a b) (k : Same b c) : Chg S a c := h.trans' k (fun _ _ h => h) (fun _ _ h => h.elim)
theorem Chg.after_same {S : Nat → Prop} {a b c : World} (h : Same a b) (k : Chg S b c) : Chg S a c := h.trans' k (fun _ _ h => h.elim) (fun _ _ h => h)
theorem Chg.drew {S : Nat → Prop} {a w : World} (h : Chg S a w) : Chg S a w.drew := ⟨h.os, h.tape, h.output, h.size, h.block⟩
theorem Chg.drewN {S : Nat → Prop} {a w : World} (h : Chg S a w) (n : Nat) : Chg S a (w.drewN n) := ⟨h.os, h.tape, h.output, h.size, h.block⟩
theorem Chg.alloc {S : Nat → Prop} {a w : World} (h : Chg S a w) (o : Obj) : Chg S a (w.alloc o) :=
  h.then_same ⟨rfl, rfl, rfl, by simp, fun k hk _ => Below.heap_alloc _ _ _ hk⟩
theorem Chg.setCell {S : Nat → Prop} {a w : World} (h : Chg S a w) {p : Addr} (hp : p.block < a.heap.size → S p.block) (u : Value) : Chg S a (w.setCell p u) :=
  h.trans' (T := fun k => k = p.block) ⟨rfl, rfl, rfl, by simp [World.setCell], fun k _ hn => Below.heap_setCell _ _ _ _ hn⟩ (fun _ _ h => h) (fun j hj e => by cases e; exact hp hj)
theorem Chg.set1 (w : World) (b i : Nat) (v : Value) : Chg (fun k => k = b) w (w.setCell ⟨b, i, none⟩ v) := Chg.setCell (S := fun k => k = b) (p := ⟨b, i, none⟩) (Chg.refl _ w) (fun _ => rfl) v
theorem Chg.grown {S : Nat → Prop} {a w w' : World} {row : Option Nat} (h : Chg S a w) (hg : w.grownBy w' row) (hr : ∀ k, k < a.heap.size → row = some k → S k) : Chg S a w' :=
  h.trans' (T := fun k => row = some k) ⟨hg.os, hg.tape, hg.output, hg.size, fun k hk hn => hg.block k hk (fun e => hn e.symm)⟩ (fun _ _ h => h) (fun j hj e => hr j hj e)
theorem Chg.of_grown {w w' : World} {row : Option Nat} (hg : w.grownBy w' row) : Chg (fun k => row = some k) w w' := (Chg.refl _ w).grown hg (fun _ _ e => e)
theorem Chg.of_below {w w' : World} (h : Below w.heap.size w w') : Same w w' := ⟨h.os, h.tape, h.output, h.size, fun k hk _ => h.block k hk⟩
theorem Chg.below {B : Nat} {S : Nat → Prop} {w w' : World} (h : Chg S w w') (hB : B ≤ w.heap.size) (hS : ∀ k, S k → B ≤ k) : Below B w w' :=
  ⟨h.os, h.tape, h.output, h.size, fun k hk => h.block k (by omega) (fun hs => by have := hS k hs; omega)⟩
theorem Chg.same_below {w w' : World} (h : Same w w') : Below w.heap.size w w' := h.below (Nat.le_refl _) (fun _ hf => hf.elim)
theorem Chg.at_ {S : Nat → Prop} {w w' : World} (h : Chg S w w') {k : Nat} {o : Obj} (ho : w.heap[k]? = some o) (hn : ¬ S k) : w'.heap[k]? = some o :=
  (h.block k (Array.getElem?_eq_some_iff.1 ho).1 hn).trans ho

theorem lt_of_at {w : World} {k : Nat} {o : Obj} (h : w.heap[k]? = some o) : k < w.heap.size := (Array.getElem?_eq_some_iff.1 h).1

/-- A block of cells of which nothing is frozen. -/
def Blk (w : World) (b : Nat) (t : TypeId) (c : List Value) : Prop := w.heap[b]? = some (.cells c.toArray t (0, 0))

theorem Blk.at_ {w : World} {b : Nat} {t : TypeId} {c : List Value} (h : Blk w b t c) : w.heap[b]? = some (.cells c.toArray t (0, 0)) := h
theorem Blk.lt {w : World} {b : Nat} {t : TypeId} {c : List Value} (h : Blk w b t c) : b < w.heap.size := lt_of_at h
theorem Blk.cell {w : World} {b : Nat} {t : TypeId} {c : List Value} (h : Blk w b t c) (i : Nat) : w.cell? ⟨b, i, none⟩ = c[i]? := by
  simp [World.cell?, h.at_]
theorem Blk.frozen {w : World} {b : Nat} {t : TypeId} {c : List Value} (h : Blk w b t c) (i : Nat) : w.frozen? ⟨b, i, none⟩ = false := by
  simp [World.frozen?, h.at_]
theorem Blk.alloc {w : World} {b : Nat} {t : TypeId} {c : List Value} (h : Blk w b t c) (o : Obj) : Blk (w.alloc o) b t c := (Below.heap_alloc w o b h.lt).trans h
theorem Blk.cellA {w : World} {b : Nat} {t : TypeId} {c : List Value} (h : Blk w b t c) (i : Nat) (o : Obj) : (w.alloc o).cell? ⟨b, i, none⟩ = c[i]? := (h.alloc o).cell i
theorem Blk.frozenA {w : World} {b : Nat} {t : TypeId} {c : List Value} (h : Blk w b t c) (i : Nat) (o : Obj) : (w.alloc o).frozen? ⟨b, i, none⟩ = false := (h.alloc o).frozen i
theorem Blk.chg {w w' : World} {b : Nat} {t : TypeId} {c : List Value} (h : Blk w b t c) {S : Nat → Prop} (k : Chg S w w') (hn : ¬ S b) : Blk w' b t c := k.at_ h.at_ hn
theorem Blk.same {w w' : World} {b : Nat} {t : TypeId} {c : List Value} (h : Blk w b t c) (k : Same w w') : Blk w' b t c := h.chg k (fun h => h)
theorem Blk.new (w : World) (t : TypeId) (c : List Value) : Blk (w.alloc (.cells c.toArray t)) w.heap.size t c := heap_alloc_new w _
theorem Blk.setCell {w : World} {b : Nat} {t : TypeId} {c : List Value} (h : Blk w b t c) (i : Nat) (v : Value) : Blk (w.setCell ⟨b, i, none⟩ v) b t (c.set i v) := by
  unfold Blk at *
  simp [World.setCell, Array.getElem?_modify, h]
theorem Blk.setOther {w : World} {b : Nat} {t : TypeId} {c : List Value} (h : Blk w b t c) (p : Addr) (v : Value) (hn : b ≠ p.block) : Blk (w.setCell p v) b t c := by
  unfold Blk at *
  rw [Below.heap_setCell _ _ _ _ hn]; exact h

/-- What 'append(v, x)' leaves, x laid just ahead in a block of its own; the row is one of the call's or of an object's. -/
theorem app_own {P : Program} {W : World} {ops : Array Oper} {rest : List Oper} {o : Oper} {a : Act} {Q : Exit → Act → World → Prop} (hgd : o.guard = none) (s x : Operand) (t e : TypeId) (z : Value) (size bytes : Nat)
    (ho : o.op = .call { callee := .builtin .append, args := #[s, x], argTypes := #[t, t] })
    (ht : P.underlying t = some (.slice e)) (hinfo : (P.info? e).map (fun i => (i.zero, i.size, i.bytes)) = some (some z, size, bytes)) (hz : z.cells.size = size) (hsz : 0 < size) (hb0 : 0 < bytes)
    (base : Nat) (v : Value) (n : Nat) (xs cs : List Value) (hs : a.eval s = v) (hx : a.eval x = .slice (some ⟨W.heap.size, 0, none⟩) 1 1) (hcs : cs.length = size) (h1 : ∀ u ∈ cs, u.oneCell' = true)
    (HO : W.ownsRow base e size v n xs) (hbase : base ≤ W.heap.size) (hl : (n + 1) * bytes ≤ 140737488355328)
    (h : ∀ g cap W', W'.ownsRow base e size (.slice (some ⟨g, 0, none⟩) (n + 1) cap) (n + 1) (xs ++ cs) → Chg (fun k => v.ownBlock = some k) W W' → (v.ownBlock = some g ∨ W.heap.size ≤ g) →
      wpList P ops Q rest (a.put o.dst (.slice (some ⟨g, 0, none⟩) (n + 1) cap)) W') :
    wpList P ops Q (o :: rest) a (W.alloc (.cells cs.toArray e)) := by
  obtain ⟨i0, hi, hzz⟩ := Option.map_eq_some_iff.1 hinfo
  simp only [Prod.mk.injEq] at hzz
  obtain ⟨hz0, hz1, hz2⟩ := hzz
  have hlen : n + 1 ≤ 140737488355328 := Nat.le_trans (Nat.le_mul_of_pos_right _ hb0) hl
  refine wpList_append_own_at (W.alloc (.cells cs.toArray e)) hgd s x t ho base e i0 z size bytes ht hi hz0 hz1 hz2 hz hsz v n xs hs (HO.alloc _) ⟨W.heap.size, 0, none⟩ 1 1 cs hx (by rw [hcs, Nat.one_mul])
    (World.news_of_block (cs := cs.toArray) (t := e) (fr := (0, 0)) (heap_alloc_new W _)) h1 (by simp only [maxLen]; omega) hl (by simp; omega) ?_
  intro v1 w1 hown hg _ hat
  obtain ⟨g, cap, rfl⟩ := ownsRow_succ hown
  refine h g cap w1 hown (((Chg.refl _ W).alloc _).grown hg (fun k _ e => e)) ?_
  rcases hat with hat | hat
  · exact .inl (by simpa [Value.ownBlock] using hat.symm)
  · simp [Value.ownBlock] at hat; exact .inr (by omega)

end Go.Proofs.Obj
