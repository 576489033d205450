/- What is proved here: contracts of the disk. No condition but what each theorem says. -/
import Derived.Test.YtiiinmleiigckaaGreatDoorGG
import Derived.TacticsInMore
import Derived.LoopNIn
import Derived.LoopIn
import Derived.OwnWalkIn
import Derived.RangeFuncBound
import Derived.RangeFuncNested
set_option linter.unusedVariables false
set_option linter.unusedSimpArgs false

/- I2 -/
namespace Go.Proofs.Obj
open Go Go.RowKit
attribute [local go_sem] Oper.semAt_some

def encW (x : (Nat × ByteArray) × Nat) : Array Value := #[.int .i64 x.2, .agg #[.int .i64 x.1.1, .string x.1.2]]

theorem Grew.lt {S M : Nat → Prop} {W wr : World} (h : Grew S W M wr) (hc : W.heap.size ≤ wr.heap.size) (hS : ∀ k, S k → k < W.heap.size) : ∀ k, M k → k < wr.heap.size := fun k hk => by
  rcases h k hk with h | h
  · have := hS k h; omega
  · exact h.2
theorem Grew.refl (S : Nat → Prop) (W : World) : Grew S W S W := fun _ h => .inl h
theorem Grew.trans {S M M' : Nat → Prop} {W A B : World} (h : Grew S W M A) (k : Grew M A M' B) (h1 : W.heap.size ≤ A.heap.size) (h2 : A.heap.size ≤ B.heap.size) : Grew S W M' B := fun j hj => by
  rcases k j hj with hj | hj
  · rcases h j hj with hj | hj
    · exact .inl hj
    · exact .inr ⟨hj.1, by omega⟩
  · exact .inr ⟨by omega, hj.2⟩
theorem Grew.chg {S M : Nat → Prop} {W A B : World} (h : Grew S W M A) (hs : Chg S W A) (k : Chg M A B) : Chg S W B :=
  hs.trans' k (fun _ _ h => h) (fun j hj hm => by
    rcases h j hm with h | h
    · exact h
    · omega)

set_option maxRecDepth 100000 in
set_option maxHeartbeats 1000000 in
theorem backward1_iter {w : World} {B cap : Nat} {A : Option Addr} {l : List (Nat × ByteArray)} (hB : Blk w B 85 [.slice A l.length cap]) (hrow : w.ownsRow 0 119 2 (.slice A l.length cap) l.length (looseCells l)) (hl : l.length ≤ 65536) :
    Iter Tryz.prog 112 #[.pointer (some ⟨B, 0, none⟩)] encW (fun k => k = B ∨ (Value.slice A l.length cap).ownBlock = some k) l.zipIdx.reverse w := by
  intro lo J Jx S W hsame hS hJ hJx hY h0
  have hBW := hB.same hsame
  have hrowW := own_chg hrow hsame (fun _ _ h => h)
  have cB := hBW.cell 0
  simp only [List.getElem?_cons_zero] at cB
  refine (callsIn_wide (n := 0)).1 ?_
  refine callsIn_of_wp Tryz.func112 rfl trivial ?_ rfl
  simp only [Tryz.ntmps112, List.size_toArray, List.length_cons, List.length_nil, Nat.reduceAdd, Nat.reduceSub, Array.replicate_succ, Array.replicate_zero, List.push_toArray, List.append_toArray, List.nil_append, List.cons_append, Array.size_append]
  gi_wp2
  gi_loopw [3] (fun i wr => ∃ (m : Nat) (M : Nat → Prop), m ≤ l.length ∧ i = .int .i64 ((m : Int) - 1) ∧ Grew S W M wr ∧ Chg S W wr ∧ J (l.zipIdx.drop m).reverse M wr) (fun i _ => ((intOf i) + 1).toNat)
  case atStart =>
    exact ⟨l.length, S, Nat.le_refl _, rfl, .refl _ _, .refl _ _, by rw [List.drop_of_length_le (by simp)]; exact h0⟩
  case round =>
    obtain ⟨m, M, hm, rfl, hgr, hch, hj⟩ := hrel
    have hSlt : ∀ k, S k → k < W.heap.size := fun k h => (hS k h).1
    cases m with
    | zero =>
      gi_wp2
      go_end0
      refine ⟨rfl, M, hgr, hch, .inl ?_⟩
      simpa using hj
    | succ k =>
      have hBr := hBW.chg hch (fun h => (hS _ h).2 (.inl rfl))
      have hrowr := own_chg hrowW hch (fun b hb h => (hS _ h).2 (.inr hb))
      obtain ⟨g, rfl⟩ : ∃ g, A = some ⟨g, 0, none⟩ := by
        rcases hrow.2 with ⟨_, h0⟩ | ⟨g, cap, cur, h, _⟩
        · omega
        · exact ⟨g, by simpa using (Value.slice.inj h).1⟩
      have cBr := hBr.cell 0
      simp only [List.getElem?_cons_zero] at cBr
      have r0 := own_cells hrowr (k * 2) _ (looseCells_at l k hm).1
      have r1 := own_cells hrowr (k * 2 + 1) _ (looseCells_at l k hm).2
      have hx : l.zipIdx.reverse = (l.zipIdx.drop (k + 1)).reverse ++ (l[k], k) :: (l.zipIdx.take k).reverse := by
        have e1 : l.zipIdx = l.zipIdx.take k ++ (l[k], k) :: l.zipIdx.drop (k + 1) := by
          conv => lhs; rw [← List.take_append_drop k l.zipIdx]
          rw [List.drop_eq_getElem_cons (by simp; omega)]
          simp
        conv => lhs; rw [e1]
        simp
      obtain ⟨fn, tmps, assign, body, hy, hR⟩ := hY _ _ _ M wr hx hch.size (hgr.lt hch.size hSlt) hj
      clear hx cB
      dsimp only [encW] at hy
      have hnext : (l.zipIdx.drop (k + 1)).reverse ++ [(l[k], k)] = (l.zipIdx.drop k).reverse := by
        rw [List.drop_eq_getElem_cons (i := k) (by simp; omega)]
        simp
      have Hn := Lib.hid hnext
      clear hnext
      gi_wp2
      refine ⟨rfl, hR.mono ?_⟩
      rintro e W' ⟨M', hgr', hch', (⟨rfl, hj'⟩ | ⟨rfl, hjx⟩)⟩
      · gi_wp2
        go_roundw
        case rel =>
          refine ⟨k, M', by omega, ?_, hgr.trans hgr' hch.size hch'.size, hgr.chg hch hch', ?_⟩
          · congr 1
          · rw [← Hn.out]; exact hj'
        case measure => simp [intOf]
      · gi_wp2
        refine bodyPost_ret (results_none rfl _ _ _) rfl ?_
        refine ⟨rfl, M', hgr.trans hgr' hch.size hch'.size, hgr.chg hch hch', .inr ⟨_, ?_, hjx⟩⟩
        rw [Hn.out]
        exact List.reverse_prefix.2 (List.drop_suffix _ _)
end Go.Proofs.Obj
