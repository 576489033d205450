/- What is proved here: contracts of a head. No condition but what each theorem says. -/
import Derived.Test.YtiiinmleiigckaaGreatDoorGL
import Derived.Laws.ResultCell
import Derived.Deep.RegionHeld3
import Derived.Laws.Rows
import Derived.Laws.NewBlocks
set_option linter.unusedVariables false
set_option linter.unusedSimpArgs false

/- C5 -/
namespace Go.Proofs.Obj
open Go Go.RowKit

/-- What a walk asks of a block of three cells that is written cell by cell. -/
theorem Blk.st3 {w : World} {b : Nat} {t : TypeId} {x0 x1 x2 : Value} (h : Blk w b t [x0, x1, x2]) :
    w.cell? ⟨b, 0, none⟩ = some x0 ∧ w.cell? ⟨b, 1, none⟩ = some x1 ∧ w.cell? ⟨b, 2, none⟩ = some x2 ∧
    w.frozen? ⟨b, 0, none⟩ = false ∧ w.frozen? ⟨b, 1, none⟩ = false ∧ w.frozen? ⟨b, 2, none⟩ = false ∧
    (∀ y, (w.setCell ⟨b, 0, none⟩ y).cell? ⟨b, 1, none⟩ = some x1) ∧ (∀ y, (w.setCell ⟨b, 0, none⟩ y).frozen? ⟨b, 1, none⟩ = false) ∧
    (∀ y z, ((w.setCell ⟨b, 0, none⟩ y).setCell ⟨b, 1, none⟩ z).cell? ⟨b, 2, none⟩ = some x2) ∧ (∀ y z, ((w.setCell ⟨b, 0, none⟩ y).setCell ⟨b, 1, none⟩ z).frozen? ⟨b, 2, none⟩ = false) :=
  ⟨h.cell 0, h.cell 1, h.cell 2, h.frozen 0, h.frozen 1, h.frozen 2, fun y => (h.setCell 0 y).cell 1, fun y => (h.setCell 0 y).frozen 1,
    fun y z => ((h.setCell 0 y).setCell 1 z).cell 2, fun y z => ((h.setCell 0 y).setCell 1 z).frozen 2⟩
theorem Blk.put3 {w : World} {b : Nat} {t : TypeId} {x0 x1 x2 : Value} (h : Blk w b t [x0, x1, x2]) (y0 y1 y2 : Value) :
    Blk (((w.setCell ⟨b, 0, none⟩ y0).setCell ⟨b, 1, none⟩ y1).setCell ⟨b, 2, none⟩ y2) b t [y0, y1, y2] := ((h.setCell 0 y0).setCell 1 y1).setCell 2 y2
theorem Chg.put3 (w : World) (b : Nat) (y0 y1 y2 : Value) : Chg (fun k => k = b) w (((w.setCell ⟨b, 0, none⟩ y0).setCell ⟨b, 1, none⟩ y1).setCell ⟨b, 2, none⟩ y2) :=
  ((Chg.set1 w b 0 y0).setCell (p := ⟨b, 1, none⟩) (fun _ => rfl) y1).setCell (p := ⟨b, 2, none⟩) (fun _ => rfl) y2

theorem eqL (l m : List UInt8) : ((S l).toList == m) = decide (l = m) := by
  rw [ByteArray.toList_eq]
  show (l == m) = _
  by_cases h : l = m <;> simp [h]
/-- A struct variable and a slot handed back. -/
theorem results_row_tmp {P : Program} {fn : Func} {p u : Tmp} {ty : TypeId} (h : fn.results = #[.cell p ty, .tmp u]) (tmps : Array Value) (w : World) (g : Nat) (t : TypeId) (cs : List Value) (d : TypeDesc)
    (hp : tmps.getD p undef = .pointer (some ⟨g, 0, none⟩)) (hg : Blk w g t cs)
    (hu : P.underlying ty = some d) (hd : (match d with | .struct _ | .array _ _ => true | _ => false) = true) (hi : (P.info? ty).map (·.size) = some cs.length) :
    (results fn tmps).run P w = .ok (.tuple #[.agg cs.toArray, tmps.getD u undef]) w := by
  rw [results_cell_tmp h, hp]
  simp [asAddr, Result.andThen, run_loadVar_row w g t ty cs.toArray (0, 0) d hg hu hd (by simpa using hi)]

def suc (n : Nat) : Nat := n + 1
def zer : Nat := 0
theorem dec_suc (n : Nat) : decide ((0 : Int) < ((suc n : Nat) : Int)) = true := by simp [suc]
theorem dec_zer : decide ((0 : Int) < ((zer : Nat) : Int)) = false := rfl
theorem lt_suc (n : Nat) : (0 < suc n) = True := by simp [suc]
theorem lt_suc' (n : Nat) : ((0 : Int) < ((suc n : Nat) : Int)) = True := by simp [suc]
theorem lt_zer : (0 < zer) = False := by simp [zer]
theorem lt_zer' : ((0 : Int) < ((zer : Nat) : Int)) = False := by simp [zer]
attribute [local go_sem] lt_suc lt_suc' lt_zer lt_zer'
/-- A block of three numbers stays, and with it all that lay ahead. -/
def Kept (w : World) (b x1 x2 x3 : Nat) (w' : World) : Prop := Blk w' b 75 [.int .i64 x1, .int .i64 x2, .int .i64 x3] ∧ Same w w'
theorem Kept.all {w w' : World} {b x1 x2 x3 : Nat} (h : Kept w b x1 x2 x3 w') : Kept w b x1 x2 x3 w' ∧ w'.cell? ⟨b, 0, none⟩ = some (.int .i64 x1) ∧ w'.cell? ⟨b, 1, none⟩ = some (.int .i64 x2) ∧ w'.cell? ⟨b, 2, none⟩ = some (.int .i64 x3) ∧
    w'.frozen? ⟨b, 0, none⟩ = false ∧ w'.frozen? ⟨b, 1, none⟩ = false ∧ w'.frozen? ⟨b, 2, none⟩ = false ∧
    (∀ y, (w'.setCell ⟨b, 0, none⟩ y).cell? ⟨b, 1, none⟩ = some (.int .i64 x2)) ∧ (∀ y, (w'.setCell ⟨b, 0, none⟩ y).frozen? ⟨b, 1, none⟩ = false) ∧
    (∀ y z, ((w'.setCell ⟨b, 0, none⟩ y).setCell ⟨b, 1, none⟩ z).cell? ⟨b, 2, none⟩ = some (.int .i64 x3)) ∧ (∀ y z, ((w'.setCell ⟨b, 0, none⟩ y).setCell ⟨b, 1, none⟩ z).frozen? ⟨b, 2, none⟩ = false) := ⟨h, h.1.st3⟩
theorem Kept.drew {w w' : World} {b x1 x2 x3 : Nat} (h : Kept w b x1 x2 x3 w') : Kept w b x1 x2 x3 w'.drew := ⟨h.1, h.2.drew⟩
theorem Kept.same {w w' w2 : World} {b x1 x2 x3 : Nat} (h : Kept w b x1 x2 x3 w') (k : Same w' w2) : Kept w b x1 x2 x3 w2 := ⟨h.1.same k, h.2.trans k⟩
theorem Kept.put {w w' : World} {b x1 x2 x3 : Nat} (h : Kept w b x1 x2 x3 w') (hb : w.heap.size = b) : Kept w b x1 x2 x3 (((w'.setCell ⟨b, 0, none⟩ (.int .i64 x1)).setCell ⟨b, 1, none⟩ (.int .i64 x2)).setCell ⟨b, 2, none⟩ (.int .i64 x3)) :=
  ⟨h.1.put3 _ _ _, h.2.trans' (Chg.put3 w' b _ _ _) (fun _ _ h => h) (fun j hj e => absurd hj (by omega))⟩

set_option maxRecDepth 100000 in
set_option maxHeartbeats 1000000 in
theorem topOf_spec {w : World} (s : ByteArray) (hs0 : s.size ≤ 4096) :
    Calls Tryz.prog 57 #[.string s] w fun e w' => e = .returned (.tuple #[topV (topOfF s).1.turn (topOfF s).1.at_ (topOfF s).1.size, .bool (topOfF s).2]) ∧ Same w w' := by
  have hB := Blk.new w 75 [.int .i64 0, .int .i64 0, .int .i64 0]
  have hSB : Same w (w.alloc (.cells [.int .i64 0, .int .i64 0, .int .i64 0].toArray 75)) := (Chg.refl _ w).alloc _
  cases hg : crcGet s with
  | none =>
    have hgs := fun W => get_spec (w := W) s (by omega)
    rw [hg] at hgs
    have ht : topOfF s = (Top.none, false) := by rw [topOfF, hg]
    rw [ht]
    clear ht
    unfold optPair at hgs
    simp only [] at hgs
    unfold topV Top.none
    go_enter Tryz.func57, Tryz.ntmps57
    go_wp2_with (first
      | (go_at_call 59; refine (hgs _).mono ?_; rintro e w1 ⟨rfl, k1⟩; have hb1 := hB.same k1; obtain ⟨c0, c1, c2, f0, f1, f2, c01, f01, c012, f012⟩ := hb1.st3))
    have hb2 := hb1.put3 (.int .i64 0) (.int .i64 0) (.int .i64 0)
    have hk2 := Chg.put3 w1 w.heap.size (.int .i64 0) (.int .i64 0) (.int .i64 0)
    refine bodyPost_ret_by (results_row_tmp rfl _ _ w.heap.size 75 _ _ rfl hb2 Tryz.underlying75 rfl (by kernel_rfl)) rfl ?_
    exact ⟨rfl, (hSB.trans k1).trans' hk2 (fun _ _ h => h) (fun j hj e => absurd hj (by omega))⟩
  | some b =>
    have hgs := fun W => get_spec (w := W) s (by omega)
    rw [hg] at hgs
    unfold optPair at hgs
    simp only [] at hgs
    have hbl : b.data.toList.length ≤ 4096 := by
      have : b.size ≤ s.size := by
        unfold crcGet at hg
        split at hg
        · cases hg
        · split at hg
          · cases hg; rw [ByteArray.size_extract]; omega
          · cases hg
      exact Nat.le_trans this hs0
    have hbS : b = S b.data.toList := rfl
    generalize hl : b.data.toList = l at *
    rw [hbS] at hgs
    by_cases hm : (tt l 4).1 = mark
    · have ht : topOfF s = (topRead l, decide (0 < (topRead l).turn) && ((topRead l).B.toList == s.toList)) := by rw [topOfF, hg]; simp only []; rw [hl, if_pos hm]
      rw [ht]
      clear ht
      have hne := eqL (tt l 4).1 mark
      rw [decide_eq_true hm] at hne
      clear hm
      change (_ == [83, 72, 76, 70]) = true at hne
      have htx := fun W r bad (hr : Blk W r 128 [.string (S l), .bool bad]) => text_spec hr 4 (by omega) (by omega)
      have hlen1 := (tt_len l 4).2
      generalize hl1 : (tt l 4).2 = l1 at *
      have hn1 := fun W r bad (hr : Blk W r 128 [.string (S l1), .bool bad]) => num_spec hr 4 (by omega) (by omega)
      have hlen2 := (tt_len l1 4).2
      have hv1 := numL_tt l1 4 (by omega)
      generalize hl2 : (tt l1 4).2 = l2 at *
      have hn2 := fun W r bad (hr : Blk W r 128 [.string (S l2), .bool bad]) => num_spec hr 2 (by omega) (by omega)
      have hlen3 := (tt_len l2 2).2
      have hv2 := numL_tt l2 2 (by omega)
      generalize hl3 : (tt l2 2).2 = l3 at *
      have hn3 := fun W r bad (hr : Blk W r 128 [.string (S l3), .bool bad]) => num_spec hr 4 (by omega) (by omega)
      have hv3 := numL_tt l3 4 (by omega)
      have htr : topRead l = ⟨numL (tt l1 4).1, numL (tt l2 2).1, numL (tt l3 4).1⟩ := by rw [topRead, hl1, hl2, hl3]
      rw [htr]
      clear htr hl1 hl2 hl3
      generalize numL (tt l1 4).1 = x1 at *
      generalize numL (tt l2 2).1 = x2 at *
      generalize numL (tt l3 4).1 = x3 at *
      have htt := fun W => toptext_spec (w := W) x1 x2 x3 hv1 hv2 hv3
      simp only [Top.B]
      generalize headB x1 x2 x3 = hb at *
      generalize S (tt l 4).1 = p at *
      generalize S (tt l3 4).2 = q at *
      generalize S l = s1 at *
      generalize S l1 = s2 at *
      generalize S l2 = s3 at *
      generalize S l3 = s4 at *
      unfold topV at *
      have hx : (∃ n, x1 = suc n) ∨ x1 = zer := by
        cases x1 with
        | zero => exact .inr rfl
        | succ n => exact .inl ⟨n, rfl⟩
      rcases hx with ⟨n, rfl⟩ | rfl
      · skip
        go_enter Tryz.func57, Tryz.ntmps57
        go_wp2_with (first
          | (go_at_call 59; refine (hgs _).mono ?_; rintro e w1 ⟨rfl, k1⟩; have hb1 := hB.same k1)
          | (go_at_call 61; have hrd := Blk.new w1 128 [.string s1, .bool false]; refine (htx _ _ _ hrd).mono ?_; rintro e w2 ⟨rfl, hr2, k2⟩)
          | (go_at_call 60; have _t := hr2; refine (hn1 _ _ _ hr2).mono ?_; rintro e w3 ⟨rfl, hr3, k3⟩; clear hr2)
          | (go_at_call 60; have _t := hr3; refine (hn2 _ _ _ hr3).mono ?_; rintro e w4 ⟨rfl, hr4, k4⟩; clear hr3)
          | (go_at_call 60; have _t := hr4; refine (hn3 _ _ _ hr4).mono ?_; rintro e w5 ⟨rfl, hr5, k5⟩; clear hr4
             have hw1 : Same w w1 := hSB.trans k1
             have hw2 : Same w w2 := (hw1.alloc (.cells [.string s1, .bool false].toArray 128)).trans' k2 (fun _ _ h => h) (fun j hj e => by have := hw1.size; omega)
             have hw3 : Same w w3 := hw2.trans' k3 (fun _ _ h => h) (fun j hj e => by have := hw1.size; omega)
             have hw4 : Same w w4 := hw3.trans' k4 (fun _ _ h => h) (fun j hj e => by have := hw1.size; omega)
             have hw5 : Same w w5 := hw4.trans' k5 (fun _ _ h => h) (fun j hj e => by have := hw1.size; omega)
             have hne1 : ¬ w.heap.size = w1.heap.size := by have := hb1.lt; omega
             have hb5 := ((((hb1.alloc (.cells [.string s1, .bool false].toArray 128)).chg k2 hne1).chg k3 hne1).chg k4 hne1).chg k5 hne1
             obtain ⟨c0, c1, c2, f0, f1, f2, c01, f01, c012, f012⟩ := hb5.st3))
        have hb6 := hb5.put3 (.int .i64 (suc n : Nat)) (.int .i64 x2) (.int .i64 x3)
        have hs6 : Same w _ := hw5.trans' (Chg.put3 w5 w.heap.size (.int .i64 (suc n : Nat)) (.int .i64 x2) (.int .i64 x3)) (fun _ _ h => h) (fun j hj e => absurd hj (by omega))
        have hK : Kept w w.heap.size (suc n) x2 x3 _ := ⟨hb6, hs6⟩
        clear hn1 hn2 hn3 htx hgs hb5 hw1 hw2 hw3 hw4 hw5 k1 k2 k3 k4 k5 c0 c1 c2 f0 f1 f2 c01 f01 c012 f012 hb6 hs6 hSB hB
        generalize ((w5.setCell ⟨w.heap.size, 0, none⟩ (Value.int IntKind.i64 ↑(suc n))).setCell ⟨w.heap.size, 1, none⟩ (Value.int IntKind.i64 ↑x2)).setCell ⟨w.heap.size, 2, none⟩ (Value.int IntKind.i64 ↑x3) = W at *
        generalize hbb : w.heap.size = bb at *
        obtain ⟨_, c0, c1, c2, f0, f1, f2, c01, f01, c012, f012⟩ := hK.all
        first | (go_region_held3 (fun w' => (Kept w bb (suc n) x2 x3 w' ∧ w'.cell? ⟨bb, 0, none⟩ = some (.int .i64 ((suc n) : Nat)) ∧ w'.cell? ⟨bb, 1, none⟩ = some (.int .i64 x2) ∧ w'.cell? ⟨bb, 2, none⟩ = some (.int .i64 x3) ∧
          w'.frozen? ⟨bb, 0, none⟩ = false ∧ w'.frozen? ⟨bb, 1, none⟩ = false ∧ w'.frozen? ⟨bb, 2, none⟩ = false ∧
          (∀ y, (w'.setCell ⟨bb, 0, none⟩ y).cell? ⟨bb, 1, none⟩ = some (.int .i64 x2)) ∧ (∀ y, (w'.setCell ⟨bb, 0, none⟩ y).frozen? ⟨bb, 1, none⟩ = false) ∧
          (∀ y z, ((w'.setCell ⟨bb, 0, none⟩ y).setCell ⟨bb, 1, none⟩ z).cell? ⟨bb, 2, none⟩ = some (.int .i64 x3)) ∧ (∀ y z, ((w'.setCell ⟨bb, 0, none⟩ y).setCell ⟨bb, 1, none⟩ z).frozen? ⟨bb, 2, none⟩ = false)))
        (first | exact hK.drew.all | exact (Kept.same (And.left (by assumption)) (by assumption)).all | exact (Kept.put (And.left (by assumption)) (by assumption)).all)
        (first
        | (go_at_call 74; refine (htt _).mono ?_; rintro e w7 ⟨rfl, k7⟩))) | fail "region"
        go_wp2
        rename_i hHeld
        refine bodyPost_ret_by (results_row_tmp rfl _ _ bb 75 _ _ rfl hHeld.1.1 Tryz.underlying75 rfl (by kernel_rfl)) rfl ?_
        refine ⟨?_, hHeld.1.2⟩
        have e : decide (0 < suc n) = true := by simp [suc]
        rw [e, Bool.true_and]
        rfl
      · skip
        go_enter Tryz.func57, Tryz.ntmps57
        go_wp2_with (first
          | (go_at_call 59; refine (hgs _).mono ?_; rintro e w1 ⟨rfl, k1⟩; have hb1 := hB.same k1)
          | (go_at_call 61; have hrd := Blk.new w1 128 [.string s1, .bool false]; refine (htx _ _ _ hrd).mono ?_; rintro e w2 ⟨rfl, hr2, k2⟩)
          | (go_at_call 60; have _t := hr2; refine (hn1 _ _ _ hr2).mono ?_; rintro e w3 ⟨rfl, hr3, k3⟩; clear hr2)
          | (go_at_call 60; have _t := hr3; refine (hn2 _ _ _ hr3).mono ?_; rintro e w4 ⟨rfl, hr4, k4⟩; clear hr3)
          | (go_at_call 60; have _t := hr4; refine (hn3 _ _ _ hr4).mono ?_; rintro e w5 ⟨rfl, hr5, k5⟩; clear hr4
             have hw1 : Same w w1 := hSB.trans k1
             have hw2 : Same w w2 := (hw1.alloc (.cells [.string s1, .bool false].toArray 128)).trans' k2 (fun _ _ h => h) (fun j hj e => by have := hw1.size; omega)
             have hw3 : Same w w3 := hw2.trans' k3 (fun _ _ h => h) (fun j hj e => by have := hw1.size; omega)
             have hw4 : Same w w4 := hw3.trans' k4 (fun _ _ h => h) (fun j hj e => by have := hw1.size; omega)
             have hw5 : Same w w5 := hw4.trans' k5 (fun _ _ h => h) (fun j hj e => by have := hw1.size; omega)
             have hne1 : ¬ w.heap.size = w1.heap.size := by have := hb1.lt; omega
             have hb5 := ((((hb1.alloc (.cells [.string s1, .bool false].toArray 128)).chg k2 hne1).chg k3 hne1).chg k4 hne1).chg k5 hne1
             obtain ⟨c0, c1, c2, f0, f1, f2, c01, f01, c012, f012⟩ := hb5.st3))
        have hb6 := hb5.put3 (.int .i64 (zer : Nat)) (.int .i64 x2) (.int .i64 x3)
        have hs6 : Same w _ := hw5.trans' (Chg.put3 w5 w.heap.size (.int .i64 (zer : Nat)) (.int .i64 x2) (.int .i64 x3)) (fun _ _ h => h) (fun j hj e => absurd hj (by omega))
        have hK : Kept w w.heap.size zer x2 x3 _ := ⟨hb6, hs6⟩
        clear hn1 hn2 hn3 htx hgs hb5 hw1 hw2 hw3 hw4 hw5 k1 k2 k3 k4 k5 c0 c1 c2 f0 f1 f2 c01 f01 c012 f012 hb6 hs6 hSB hB
        generalize ((w5.setCell ⟨w.heap.size, 0, none⟩ (Value.int IntKind.i64 ↑zer)).setCell ⟨w.heap.size, 1, none⟩ (Value.int IntKind.i64 ↑x2)).setCell ⟨w.heap.size, 2, none⟩ (Value.int IntKind.i64 ↑x3) = W at *
        generalize hbb : w.heap.size = bb at *
        obtain ⟨_, c0, c1, c2, f0, f1, f2, c01, f01, c012, f012⟩ := hK.all
        go_region
        go_wp2
        have hKf := Kept.put hK.drew hbb
        refine bodyPost_ret_by (results_row_tmp rfl _ _ bb 75 _ _ rfl hKf.1 Tryz.underlying75 rfl (by kernel_rfl)) rfl ?_
        refine ⟨?_, hKf.2⟩
        have e : decide (0 < zer) = false := by simp [zer]
        rw [e, Bool.false_and]
        rfl
    · have ht : topOfF s = (Top.none, false) := by rw [topOfF, hg]; simp only []; rw [hl, if_neg hm]
      rw [ht]
      clear ht
      have hne := eqL (tt l 4).1 mark
      rw [decide_eq_false hm] at hne
      clear hm
      have htx := fun W r bad (hr : Blk W r 128 [.string (S l), .bool bad]) => text_spec hr 4 (by omega) (by omega)
      change (_ == [83, 72, 76, 70]) = false at hne
      generalize S (tt l 4).1 = p at *
      generalize S (tt l 4).2 = q at *
      generalize S l = s1 at *
      unfold topV Top.none
      go_enter Tryz.func57, Tryz.ntmps57
      go_wp2_with (first
        | (go_at_call 59; refine (hgs _).mono ?_; rintro e w1 ⟨rfl, k1⟩; have hb1 := hB.same k1)
        | (go_at_call 61; have hrd := Blk.new w1 128 [.string s1, .bool false]; refine (htx _ _ _ hrd).mono ?_; rintro e w2 ⟨rfl, hr2, k2⟩; have hb2 := (hb1.alloc (.cells [.string s1, .bool false].toArray 128)).chg k2 (by have := hb1.lt; omega); obtain ⟨c0, c1, c2, f0, f1, f2, c01, f01, c012, f012⟩ := hb2.st3))
      have hb3 := hb2.put3 (.int .i64 0) (.int .i64 0) (.int .i64 0)
      have hk3 := Chg.put3 w2 w.heap.size (.int .i64 0) (.int .i64 0) (.int .i64 0)
      refine bodyPost_ret_by (results_row_tmp rfl _ _ w.heap.size 75 _ _ rfl hb3 Tryz.underlying75 rfl (by kernel_rfl)) rfl ?_
      have hw1 : Same w w1 := hSB.trans k1
      have hw2 : Same w w2 := (hw1.alloc (.cells [.string s1, .bool false].toArray 128)).trans' k2 (fun _ _ h => h) (fun j hj e => by have := hw1.size; omega)
      exact ⟨rfl, hw2.trans' hk3 (fun _ _ h => h) (fun j hj e => absurd hj (by omega))⟩
end Go.Proofs.Obj
