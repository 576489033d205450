/- What is proved here: contracts of the bitmap. No condition but what each theorem says. -/
import Derived.Test.YtiiinmleiigckaaGreatDoorGN
import Derived.Test.YtiiinmleiigckaaGreatDoorGB
set_option linter.unusedVariables false
set_option linter.unusedSimpArgs false

/- B2 -/
namespace Go.Proofs.Obj
open Go Go.RowKit

def encR (x : Nat × Nat) : List Value := [.int .i64 x.1, .int .i64 x.2]
def runCells (l : List (Nat × Nat)) : List Value := l.flatMap encR
theorem runCells_length (l : List (Nat × Nat)) : (runCells l).length = l.length * 2 := by
  induction l with
  | nil => rfl
  | cons a l ih => simp only [runCells, List.flatMap_cons, List.length_append, List.length_cons] at ih ⊢; rw [ih]; simp [encR]; omega
theorem runCells_append (l m : List (Nat × Nat)) : runCells (l ++ m) = runCells l ++ runCells m := by simp [runCells]
theorem runCells_at : ∀ (l : List (Nat × Nat)) (k : Nat) (h : k < l.length), (runCells l)[k * 2]? = some (.int .i64 l[k].1) ∧ (runCells l)[k * 2 + 1]? = some (.int .i64 l[k].2)
  | a :: l, 0, _ => by simp [runCells, encR]
  | a :: l, k + 1, h => by
    have := runCells_at l k (by simpa using h)
    have e1 : runCells (a :: l) = encR a ++ runCells l := by simp [runCells]
    have e2 : (k + 1) * 2 = k * 2 + 2 := by omega
    rw [e1, e2]
    simpa [encR] using this

theorem real1_spec {w : World} (a n : Nat) : Calls Tryz.prog 121 #[.agg #[.int .i64 a, .int .i64 n]] w fun e w' => e = .returned (.bool (decide (n < 1))) ∧ Same w w' := by
  have hb := Blk.new w 177 [.int .i64 a, .int .i64 n]
  have c1 := hb.cell 1
  go_enter Tryz.func121, Tryz.ntmps121
  go_wp2
  go_ret
  refine ⟨?_, (Chg.refl _ w).alloc _⟩
  have : decide ((n : Int) < 1) = decide (n < 1) := by simp; omega
  exact congrArg (fun x => Ending.returned (Value.bool x)) this

theorem idxf_spec {w : World} {b off cap : Nat} {us : List (Nat × Nat)} (hr : RdAt w b off (runCells us)) (hn : ∀ x ∈ us, 1 ≤ x.2) (hm : us.length ≤ 4294967296) :
    Calls Tryz.prog 137 #[.slice (some ⟨b, off, none⟩) us.length cap, .func (.func 121) #[] #[]] w fun e w' => e = .returned (.int .i64 (-1)) ∧ Same w w' := by
  go_enter Tryz.func137, Tryz.ntmps137
  go_wp2
  go_loopw [8] (fun k wr => ∃ m : Nat, m ≤ us.length ∧ k = .int .i64 m ∧ Same w wr) (fun k _ => us.length - (intOf k).toNat)
  case atStart => exact ⟨0, Nat.zero_le _, rfl, .refl _ _⟩
  case round =>
    obtain ⟨m, hml, rfl, hch⟩ := hrel
    by_cases hlt : m < us.length
    · have hr' := hr.chg hch (fun h => h)
      have c0 := hr' _ _ (runCells_at us m hlt).1
      have c1 := hr' _ _ (runCells_at us m hlt).2
      rw [← Nat.add_assoc] at c1
      have hn1 := hn _ (List.getElem_mem hlt)
      have hd : decide (us[m].2 < 1) = false := by simp; omega
      have hcl := fun W => real1_spec (w := W) us[m].1 us[m].2
      rw [hd] at hcl
      clear hr hn
      generalize us[m] = u at *
      go_wp2_with (go_at_call 121; refine (hcl _).mono ?_; rintro e w1 ⟨rfl, k1⟩)
      go_roundw
      · exact ⟨m + 1, by omega, rfl, hch.trans k1⟩
      · simp only [intOf]; omega
    · go_wp2
      go_ret
      exact ⟨rfl, hch⟩

/-- slices.DeleteFunc where nothing goes. -/
theorem delf_spec {w : World} {b off cap : Nat} {us : List (Nat × Nat)} (hr : RdAt w b off (runCells us)) (hn : ∀ x ∈ us, 1 ≤ x.2) (hm : us.length ≤ 4294967296) :
    Calls Tryz.prog 119 #[.slice (some ⟨b, off, none⟩) us.length cap, .func (.func 121) #[] #[]] w fun e w' => e = .returned (.slice (some ⟨b, off, none⟩) us.length cap) ∧ Same w w' := by
  have hi := idxf_spec (cap := cap) hr hn hm
  clear hr hn
  go_enter Tryz.func119, Tryz.ntmps119
  go_wp2_with (go_at_call 137; refine hi.mono ?_; rintro e w1 ⟨rfl, k1⟩)
  go_ret
  exact ⟨rfl, k1⟩

theorem Tryz.info177 : (Tryz.prog.info? 177).map (fun i => (i.zero, i.size, i.bytes)) = some (some (.agg #[.int .i64 0, .int .i64 0]), 2, 16) := by kernel_rfl

theorem cloneRun_spec {w : World} {b off cap : Nat} {us : List (Nat × Nat)} (hr : RdAt w b off (runCells us)) (hm : us.length ≤ 4294967296) :
    Calls Tryz.prog 120 #[.slice (some ⟨b, off, none⟩) us.length cap] w fun e w' => ∃ v', e = .returned v' ∧ w'.ownsRow w.heap.size 177 2 v' us.length (runCells us) ∧ v' ≠ .slice none 0 0 ∧ Same w w' := by
  obtain ⟨i0, hi, hz⟩ := Option.map_eq_some_iff.1 Tryz.info177
  simp only [Prod.mk.injEq] at hz
  obtain ⟨hz0, hz1, hz2⟩ := hz
  have := AnyE.slices_Clone Tryz.cloneRun i0 _ 2 16 hi hz0 hz1 hz2 rfl (by omega) Tryz.sizeOf177 b off us.length cap (runCells us) w (runCells_length us) (by simp only [maxLen]; omega) (by omega) hr
    (fun u hu => by
      simp only [runCells, List.mem_flatMap, encR] at hu
      obtain ⟨x, _, hx⟩ := hu
      simp at hx
      rcases hx with rfl | rfl <;> rfl)
  refine Calls.mono this ?_
  rintro e w' ⟨v', rfl, h1, h2, h3⟩
  exact ⟨v', rfl, h1, h2, Chg.of_below h3⟩

theorem own_rd {w : World} {base : Nat} {e : TypeId} {size n g cap : Nat} {xs : List Value} (h : w.ownsRow base e size (.slice (some ⟨g, 0, none⟩) n cap) n xs) : RdAt w g 0 xs := fun j u hu => by
  rw [Nat.zero_add]
  exact own_cells h j u hu

theorem cloneRun_spec1 {w : World} {b off cap : Nat} {us : List (Nat × Nat)} (hr : RdAt w b off (runCells us)) (hm : us.length ≤ 4294967296) (h0 : 0 < us.length) :
    Calls Tryz.prog 120 #[.slice (some ⟨b, off, none⟩) us.length cap] w fun e w' => ∃ g cap', e = .returned (.slice (some ⟨g, 0, none⟩) us.length cap') ∧ w'.ownsRow w.heap.size 177 2 (.slice (some ⟨g, 0, none⟩) us.length cap') us.length (runCells us) ∧ Same w w' := by
  refine (cloneRun_spec hr hm).mono ?_
  rintro e w' ⟨v, rfl, hrow, hv, k1⟩
  rcases hrow.2 with ⟨e0, _⟩ | ⟨g, cap', cur, rfl, _⟩
  · exact absurd e0 hv
  · exact ⟨g, cap', rfl, hrow, k1⟩

/-- bitmap.real where each run has a place. -/
theorem real_spec {w : World} {b off cap : Nat} {us : List (Nat × Nat)} (hr : RdAt w b off (runCells us)) (hn : ∀ x ∈ us, 1 ≤ x.2) (hm : us.length ≤ 4294967296) (h0 : 0 < us.length) :
    Calls Tryz.prog 94 #[.slice (some ⟨b, off, none⟩) us.length cap] w fun e w' => ∃ g cap', e = .returned (.slice (some ⟨g, 0, none⟩) us.length cap') ∧ w'.ownsRow w.heap.size 177 2 (.slice (some ⟨g, 0, none⟩) us.length cap') us.length (runCells us) ∧ Same w w' := by
  have hc := cloneRun_spec1 (cap := cap) hr hm h0
  have hd : ∀ W g cap', RdAt W g 0 (runCells us) → Calls Tryz.prog 119 #[.slice (some ⟨g, 0, none⟩) us.length cap', .func (.func 121) #[] #[]] W fun e w' => e = .returned (.slice (some ⟨g, 0, none⟩) us.length cap') ∧ Same W w' := fun W g cap' h => delf_spec h hn hm
  clear hr hn
  generalize us.length = n at *
  generalize runCells us = cs at *
  go_enter Tryz.func94, Tryz.ntmps94
  go_wp2_with (first
    | (go_at_call 120; refine hc.mono ?_; rintro e w1 ⟨g, cap', rfl, hrow, k1⟩)
    | (go_at_call 119; refine (hd _ _ _ (own_rd hrow)).mono ?_; rintro e w2 ⟨rfl, k2⟩))
  go_ret
  exact ⟨g, cap', rfl, own_chg hrow k2 (fun _ _ h => h), k1.trans k2⟩

theorem nan_spec {w : World} (x : Int) : Calls Tryz.prog 124 #[.int .i64 x] w fun e w' => e = .returned (.bool false) ∧ w = w' := by
  go_enter Tryz.func124, Tryz.ntmps124
  go_wp2
  go_ret
  exact ⟨rfl, rfl⟩

theorem cmp_spec {w : World} (x y : Int) : Calls Tryz.prog 97 #[.int .i64 x, .int .i64 y] w fun e w' => e = .returned (.int .i64 (Lib.compareInt x y)) ∧ w = w' := by
  have hx := fun W => nan_spec (w := W) x
  have hy := fun W => nan_spec (w := W) y
  go_enter Tryz.func97, Tryz.ntmps97
  by_cases h1 : x < y
  · have e : Lib.compareInt x y = -1 := by simp [Lib.compareInt, h1]
    rw [e]
    go_wp2_with (first
      | (go_at_call_of 124 (Value.int .i64 x); refine (hx _).mono ?_; rintro e w1 ⟨rfl, rfl⟩)
      | (go_at_call_of 124 (Value.int .i64 y); refine (hy _).mono ?_; rintro e w1 ⟨rfl, rfl⟩))
    go_ret
    exact ⟨rfl, rfl⟩
  · by_cases h2 : y < x
    · have e : Lib.compareInt x y = 1 := by simp [Lib.compareInt, h1, h2]
      rw [e]
      go_wp2_with (first
        | (go_at_call_of 124 (Value.int .i64 x); refine (hx _).mono ?_; rintro e w1 ⟨rfl, rfl⟩)
        | (go_at_call_of 124 (Value.int .i64 y); refine (hy _).mono ?_; rintro e w1 ⟨rfl, rfl⟩))
      go_ret
      exact ⟨rfl, rfl⟩
    · have e : Lib.compareInt x y = 0 := by simp [Lib.compareInt, h1, h2]
      rw [e]
      go_wp2_with (first
        | (go_at_call_of 124 (Value.int .i64 x); refine (hx _).mono ?_; rintro e w1 ⟨rfl, rfl⟩)
        | (go_at_call_of 124 (Value.int .i64 y); refine (hy _).mono ?_; rintro e w1 ⟨rfl, rfl⟩))
      go_ret
      exact ⟨rfl, rfl⟩
end Go.Proofs.Obj

/- B3 -/
namespace Go.Proofs.Obj
open Go Go.RowKit Go.Sort Go.Lib Go.Shelf

def cfR (x y : Nat × Nat) : Int := Lib.compareInt x.1 y.1
theorem ltR (x y : Nat × Nat) : ltOf cfR x y = decide (x.1 < y.1) := by
  unfold ltOf cfR Lib.compareInt
  by_cases h1 : x.1 < y.1
  · simp [h1]
  · by_cases h2 : y.1 < x.1 <;> simp [h1, h2]
theorem swoR : SWO (ltOf cfR) where
  irrefl x := by rw [ltR]; simp
  trans x y z h1 h2 := by rw [ltR] at *; simp at *; omega
  ntrans x y z h1 h2 := by rw [ltR] at *; simp at *; omega

set_option maxRecDepth 100000 in
theorem less_spec (x y : Nat × Nat) (W : World) : Calls Tryz.prog 96 #[.agg (encR x).toArray, .agg (encR y).toArray] W fun e w' => e = .returned (.int .i64 (cfR x y)) ∧ ∃ q os', w' = grow (W.drewN q) os' := by
  have hcon := fun W' => cmp_spec (w := W') x.1 y.1
  rw [show Lib.compareInt x.1 y.1 = cfR x y from rfl] at hcon
  generalize cfR x y = r at *
  change Calls Tryz.prog 96 #[.agg #[.int .i64 x.1, .int .i64 x.2], .agg #[.int .i64 y.1, .int .i64 y.2]] W _
  go_enter Tryz.func96, Tryz.ntmps96
  go_wp2_with (go_at_call 97; refine (hcon _).mono ?_; rintro e w' ⟨rfl, rfl⟩)
  go_ret
  exact ⟨rfl, 0, _, by rw [alloc_eq_grow, alloc_eq_grow, grow_grow]; rfl⟩

theorem flatK_list (l : List (Nat × Nat)) : (flatK encR 2 l.toArray).toList = runCells l := by
  apply List.ext_getElem?
  intro j
  by_cases hj : j < l.length * 2
  · have h := get_flatK encR 2 l.toArray j (by simpa using hj)
    have hs : j < (flatK encR 2 l.toArray).size := by simpa using hj
    rw [Array.getElem?_toList, Array.getElem?_eq_getElem hs]
    rw [getElem!_pos _ j hs] at h
    rw [h]
    have hk : j / 2 < l.length := by omega
    have hr := runCells_at l (j / 2) hk
    have hx : l.toArray[j / 2]! = l[j / 2] := by simp [hk]
    rw [hx]
    rcases Nat.mod_two_eq_zero_or_one j with h2 | h2
    · have e : j / 2 * 2 = j := by omega
      rw [e] at hr
      rw [h2, hr.1]; rfl
    · have e : j / 2 * 2 + 1 = j := by omega
      rw [e] at hr
      rw [h2, hr.2]; rfl
  · rw [List.getElem?_eq_none (by simp; omega), List.getElem?_eq_none (by rw [runCells_length]; omega)]

theorem own_holds {w : World} {base g n cap : Nat} {us : List (Nat × Nat)} (h : w.ownsRow base 177 2 (.slice (some ⟨g, 0, none⟩) n cap) n (runCells us)) : HoldsK encR 2 w g 0 us.toArray := by
  intro j hj
  have hj' : j < us.length * 2 := by simpa using hj
  have e1 : (flatK encR 2 us.toArray)[j]! = (runCells us)[j]'(by rw [runCells_length]; exact hj') := by
    rw [getElem!_pos _ j hj, ← Array.getElem_toList]
    simp only [flatK_list]
  rw [e1, Nat.zero_add]
  refine ⟨own_cells h j _ (List.getElem?_eq_getElem _), ?_⟩
  rcases h.2 with ⟨e0, _⟩ | ⟨g', cap', cur, e0, hb, hg, hn, hm, hs, ht⟩
  · cases e0
  · cases e0
    simp [World.frozen?, hg]

theorem putCells_take (cur : Array Value) (F : Array Value) (h : F.size ≤ cur.size) : (putCells id 0 F cur).toList.take F.size = F.toList := by
  apply List.ext_getElem?
  intro j
  by_cases hj : j < F.size
  · rw [List.getElem?_take_of_lt hj, Array.getElem?_toList]
    simp [putCells, hj, show j < cur.size by omega]
  · rw [List.getElem?_take_eq_none (by omega), List.getElem?_eq_none (by simp; omega)]

theorem own_sortedR {w : World} {base g n cap q : Nat} {os : Array Obj} {us ts : List (Nat × Nat)} (h : w.ownsRow base 177 2 (.slice (some ⟨g, 0, none⟩) n cap) n (runCells us)) (hl : ts.length = us.length) :
    (sortWorldK encR 2 w g 0 q ts.toArray os).ownsRow base 177 2 (.slice (some ⟨g, 0, none⟩) n cap) n (runCells ts) := by
  have hn0 : us.length = n := by have := h.1; rw [runCells_length] at this; omega
  refine ⟨by rw [runCells_length, hl, hn0], ?_⟩
  rcases h.2 with ⟨e0, _⟩ | ⟨g', cap', cur, e0, hb, hg, hn, hm, hs, ht⟩
  · cases e0
  · cases e0
    have hlt : g < w.heap.size := lt_of_at hg
    refine .inr ⟨g, cap, putCells id 0 (flatK encR 2 ts.toArray) cur, rfl, hb, ?_, hn, hm, by simp [putCells, hs], ?_⟩
    · show (grow (putRowK encR 2 (Sort.ahead w q) g 0 ts.toArray) os).heap[g]? = _
      rw [heap_grow_old _ _ (by simpa [putRowK] using hlt)]
      simp [putRowK, putRow, mapBlock, Sort.ahead, Array.getElem?_modify, hg, onCells]
    · have h1 := putCells_take cur (flatK encR 2 ts.toArray) (by rw [size_flatK, hs]; simp; omega)
      rw [flatK_list, size_flatK] at h1
      rw [← h1, ← hn0, ← hl]
      rfl
theorem chg_sortedR {w : World} {g q : Nat} {os : Array Obj} {ts : Array (Nat × Nat)} : Chg (fun k => k = g) w (sortWorldK encR 2 w g 0 q ts os) := by
  refine ⟨rfl, rfl, rfl, by simp [sortWorldK, grow, putRowK, Sort.ahead], fun k hk hne => ?_⟩
  show (grow (putRowK encR 2 (Sort.ahead w q) g 0 ts) os).heap[k]? = _
  rw [heap_grow_old _ _ (by simpa [putRowK] using hk)]
  have : g ≠ k := fun e => hne e.symm
  simp [putRowK, putRow, mapBlock, Sort.ahead, Array.getElem?_modify, this]

/-- The runs sorted by where they begin. -/
theorem sortf_spec {w : World} {base g cap : Nat} {us : List (Nat × Nat)} (h : w.ownsRow base 177 2 (.slice (some ⟨g, 0, none⟩) us.length cap) us.length (runCells us)) (hm : us.length ≤ 4294967296) :
    Calls Tryz.prog 95 #[.slice (some ⟨g, 0, none⟩) us.length cap, .func (.func 96) #[] #[]] w fun e w' => ∃ ts : List (Nat × Nat), e = .returned (.tuple #[]) ∧ ts.Perm us ∧ ts.Pairwise (fun a b => a.1 ≤ b.1) ∧
      w'.ownsRow base 177 2 (.slice (some ⟨g, 0, none⟩) us.length cap) us.length (runCells ts) ∧ Chg (fun k => k = g) w w' := by
  have hg : g < w.heap.size := by
    rcases h.2 with ⟨e0, _⟩ | ⟨g', cap', cur, e0, hb, hg, _⟩
    · cases e0
    · cases e0; exact lt_of_at hg
  have eg : ∀ args w, (callFunc 96 args).run Tryz.prog w = .ok (.enter 96 args) w := enters_of Tryz.func96 (by kernel_rfl) rfl
  have hcon := AnyQ.slices_SortFunc Tryz.sortRun 2 Tryz.isAgg177 Tryz.sizeOf177 encR (fun _ => rfl) (fun x v hv => by simp [encR] at hv; rcases hv with rfl | rfl <;> rfl) cfR swoR 96 #[] g 0 cap us.toArray w eg
    (fun _ _ _ _ x y => less_spec x y _) (own_holds h) hg (by simp; omega)
  refine Calls.mono hcon ?_
  rintro e w' ⟨rfl, d', n, os, hp, hs, rfl⟩
  obtain ⟨hp1, _, hp2⟩ := hp
  have hl : d'.toList.length = us.length := by simpa using hp1
  have hd : d' = d'.toList.toArray := rfl
  refine ⟨d'.toList, rfl, ?_, ?_, ?_, chg_sortedR⟩
  · have e1 : d'.extract 0 us.toArray.size = d' := by rw [← hp1]; simp
    have e2 : us.toArray.extract 0 us.toArray.size = us.toArray := by simp
    rw [e1, e2] at hp2
    simpa using hp2
  · rw [List.pairwise_iff_getElem]
    intro i j hi hj hij
    have := hs i j (Nat.zero_le _) hij (by simpa [← hp1] using hj)
    rw [ltR] at this
    have h1 : d'[j]! = d'.toList[j] := by rw [getElem!_pos _ j (by simpa using hj)]; simp
    have h2 : d'[i]! = d'.toList[i] := by rw [getElem!_pos _ i (by simpa using hi)]; simp
    rw [h1, h2] at this
    simp at this ⊢
    omega
  · have := own_sortedR (q := n) (os := os) h hl
    simpa using this
end Go.Proofs.Obj

/- B4 -/
namespace Go.Proofs.Obj
open Go Go.RowKit

/-- One round of bitmap.Free. -/
theorem freeGo_cons (L : Nat) (r : Nat × Nat) (l : List (Nat × Nat)) (at_ : Nat) :
    freeGo L (r :: l) at_ = (if at_ < min r.1 L then [(at_, min r.1 L - at_)] else []) ++ freeGo L l (max at_ (r.1 + r.2)) := rfl

theorem own_low {w : World} {base base' : Nat} {e : TypeId} {size n : Nat} {v : Value} {xs : List Value} (h : w.ownsRow base e size v n xs) (hb : base' ≤ base) : w.ownsRow base' e size v n xs := by
  refine ⟨h.1, ?_⟩
  rcases h.2 with h2 | ⟨g, cap, cur, h1, h2, h3⟩
  · exact .inl h2
  · exact .inr ⟨g, cap, cur, h1, Nat.le_trans hb h2, h3⟩

set_option maxRecDepth 100000 in
theorem free_spec {w : World} {b off cap : Nat} {us : List (Nat × Nat)} (hr : RdAt w b off (runCells us)) (hn : ∀ x ∈ us, 1 ≤ x.2 ∧ x.1 + x.2 ≤ 4294967296) (hm : us.length ≤ 1000000) (h0 : 0 < us.length) (L : Nat) (hL : L ≤ 65536) :
    Calls Tryz.prog 66 #[.slice (some ⟨b, off, none⟩) us.length cap, .int .i64 0, .int .i64 L] w fun e w' => ∃ (v : Value) (out : List (Nat × Nat)), e = .returned v ∧ w'.ownsRow w.heap.size 177 2 v out.length (runCells out) ∧
      runPlaces out = (List.range L).filter (fun p => !cov us p) ∧ (∀ r ∈ out, 0 < r.2 ∧ r.1 + r.2 ≤ L) ∧ out.length ≤ us.length + 1 ∧ Same w w' := by
  have hre := real_spec (cap := cap) hr (fun x hx => (hn x hx).1) (by omega) h0
  have hso : ∀ W g cap', W.ownsRow w.heap.size 177 2 (.slice (some ⟨g, 0, none⟩) us.length cap') us.length (runCells us) → Calls Tryz.prog 95 #[.slice (some ⟨g, 0, none⟩) us.length cap', .func (.func 96) #[] #[]] W fun e w' => ∃ ts : List (Nat × Nat), e = .returned (.tuple #[]) ∧ ts.Perm us ∧ ts.Pairwise (fun a b => a.1 ≤ b.1) ∧
      w'.ownsRow w.heap.size 177 2 (.slice (some ⟨g, 0, none⟩) us.length cap') us.length (runCells ts) ∧ Chg (fun k => k = g) W w' := fun W g cap' h => sortf_spec h (by omega)
  have hn2 : ∀ ts : List (Nat × Nat), ts.Perm us → ∀ x ∈ ts, 1 ≤ x.2 ∧ x.1 + x.2 ≤ 4294967296 := fun ts hp x hx => hn x (hp.mem_iff.1 hx)
  have hcv : ∀ ts : List (Nat × Nat), ts.Perm us → ∀ p, cov ts p = cov us p := fun ts hp p => cov_perm hp p
  have hln : ∀ ts : List (Nat × Nat), ts.Perm us → ts.length = us.length := fun ts hp => hp.length_eq
  have hPost : ∀ ts : List (Nat × Nat), ts.Perm us → ts.Pairwise (fun a b => a.1 ≤ b.1) → ∀ out, out = freeGo L (ts ++ [(L, 0)]) 0 → runPlaces out = (List.range L).filter (fun p => !cov us p) ∧ (∀ r ∈ out, 0 < r.2 ∧ r.1 + r.2 ≤ L) ∧ out.length ≤ us.length + 1 := by
    intro ts hp hs out e
    subst e
    refine ⟨?_, freeGo_pos L _ 0, ?_⟩
    · rw [freeGo_places L ts 0 hs, List.range_eq_range', Nat.sub_zero]
      exact List.filter_congr fun p _ => by rw [hcv ts hp]
    · have := freeGo_length L (ts ++ [(L, 0)]) 0
      rw [List.length_append, hln ts hp] at this
      exact this
  clear hn hr hcv
  have hmax : (max (0 : Int) (L : Int)) = (L : Int) := by omega
  go_enter Tryz.func66, Tryz.ntmps66
  go_wp2_with (first
    | (go_at_call 94; refine hre.mono ?_; rintro e w1 ⟨g, cap', rfl, hrow, k1⟩)
    | (go_at_call 95; refine (hso _ _ _ hrow).mono ?_; rintro e w2 ⟨ts, rfl, hp, hs, hrow2, k2⟩)
    | (at_builtin; refine app_own rfl (.tmp 18) (.tmp 23) 137 177 _ 2 16 rfl Tryz.underlying137 Tryz.info177 rfl (by decide) (by decide) w.heap.size (.slice (some ⟨g, 0, none⟩) us.length cap') us.length (runCells ts) [.int .i64 L, .int .i64 0] rfl rfl rfl ?c1 hrow2 ?c2 ?c3 ?c4))
  case c1 => intro u hu; simp at hu; rcases hu with rfl | rfl <;> rfl
  case c2 => have := k1.size; have := k2.size; omega
  case c3 => omega
  case c4 =>
    intro g2 cap2 W hrow3 k3 hg2
    have hW : Same w W := by
      have hg : w.heap.size ≤ g := own_base hrow rfl
      have k12 : Same w w2 := k1.trans' k2 (fun _ _ h => h) (fun j hj e => by subst e; exact absurd hj (by omega))
      refine k12.trans' k3 (fun _ _ h => h) (fun j hj e => ?_)
      simp [Value.ownBlock] at e
      omega
    have e4 : runCells ts ++ [Value.int IntKind.i64 ↑L, Value.int IntKind.i64 0] = runCells (ts ++ [(L, 0)]) := by rw [runCells_append]; rfl
    rw [e4] at hrow3
    have hrd := own_rd hrow3
    have hlr : (ts ++ [(L, 0)]).length = us.length + 1 := by rw [List.length_append, hln ts hp]; rfl
    have hPo := hPost ts hp hs
    have hb2 : ∀ x ∈ ts ++ [(L, 0)], x.1 + x.2 ≤ 4294967296 := by
      intro x hx
      rcases List.mem_append.1 hx with hx | hx
      · exact (hn2 ts hp x hx).2
      · simp at hx; subst hx; simp; omega
    clear hrow3 hrow hrow2 hso hre hPost hn2 hln e4 hs hp k1 k2 k3 hg2
    generalize ts ++ [(L, 0)] = rs at *
    have HPo := Lib.hid hPo
    clear hPo
    go_wp2
    go_loopw [8, 9, 26] (fun v a k wr => ∃ (m at_ : Nat) (out : List (Nat × Nat)), m ≤ rs.length ∧ at_ ≤ 4294967296 ∧ out.length ≤ m ∧ a = .int .i64 at_ ∧ k = .int .i64 m ∧ wr.ownsRow W.heap.size 177 2 v out.length (runCells out) ∧ out ++ freeGo L (rs.drop m) at_ = freeGo L rs 0 ∧ Same W wr) (fun _ _ k _ => rs.length - (intOf k).toNat)
    case atStart => exact ⟨0, 0, [], Nat.zero_le _, by omega, Nat.le_refl _, rfl, rfl, World.ownsRow_nil _ _ _ _, rfl, .refl _ _⟩
    case round =>
      obtain ⟨m, at_, out, hml, hat, hol, rfl, rfl, ho, hgo, hch⟩ := hrel
      have Hgo := Lib.hid hgo
      clear hgo
      by_cases hlt : m < rs.length
      · have hr' := hrd.chg hch (fun h => h)
        have c0 := hr' _ _ (runCells_at rs m hlt).1
        have c1 := hr' _ _ (runCells_at rs m hlt).2
        rw [Nat.zero_add] at c0 c1
        have hb := hb2 _ (List.getElem_mem hlt)
        have hdr : rs.drop m = rs[m] :: rs.drop (m + 1) := List.drop_eq_getElem_cons hlt
        have hg1 := Hgo.out
        rw [hdr, freeGo_cons, ← List.append_assoc] at hg1
        clear hdr
        have Hg1 := Lib.hid hg1
        clear hg1 Hgo
        generalize rs[m] = r at *
        have ho' := ho.alloc (.cells #[.int .i64 r.1, .int .i64 r.2] 177)
        have hch' : Same W (wr.alloc (.cells #[.int .i64 r.1, .int .i64 r.2] 177)) := hch.alloc _
        have hnx : max (at_ : Int) ((r.1 : Int) + (r.2 : Int)) = ((max at_ (r.1 + r.2) : Nat) : Int) := by omega
        by_cases hgap : at_ < min r.1 L
        · have hgi : (0 : Int) < min (r.1 : Int) (L : Int) - (at_ : Int) := by omega
          have hd : min (r.1 : Int) (L : Int) - (at_ : Int) = ((min r.1 L - at_ : Nat) : Int) := by omega
          have hgo := Hg1.out
          rw [if_pos hgap] at hgo
          have Hgo := Lib.hid hgo
          clear hgo Hg1
          go_wp2_with (at_builtin; refine app_own rfl (.tmp 38) (.tmp 42) 137 177 _ 2 16 rfl Tryz.underlying137 Tryz.info177 rfl (by decide) (by decide) W.heap.size u8 out.length (runCells out) [.int .i64 (at_ : Int), .int .i64 ((min r.1 L - at_ : Nat) : Int)] rfl (by simp [Act.eval]) rfl ?c1 ho' ?c2 ?c3 ?c4)
          case c1 => intro u hu; simp at hu; rcases hu with rfl | rfl <;> rfl
          case c2 => exact hch'.size
          case c3 => omega
          case c4 =>
            intro g3 cap3 W3 ho3 k3 hg3
            have e5 : runCells out ++ [Value.int IntKind.i64 (at_ : Int), Value.int IntKind.i64 ((min r.1 L - at_ : Nat) : Int)] = runCells (out ++ [(at_, min r.1 L - at_)]) := by rw [runCells_append]; rfl
            rw [e5] at ho3
            have hch3 : Same W W3 := hch'.trans' k3 (fun _ _ h => h) (fun j hj e => absurd hj (Nat.not_lt.2 (own_base ho e)))
            have d0 : W3.cell? ⟨wr.heap.size, 0, none⟩ = some (.int .i64 r.1) := cell_chg k3 ((Blk.new wr 177 [.int .i64 r.1, .int .i64 r.2]).cell 0) (fun e => by have := own_type ho' e; have := own_type ho e; exact absurd (lt_of_at this.choose_spec) (Nat.lt_irrefl _))
            have d1 : W3.cell? ⟨wr.heap.size, 1, none⟩ = some (.int .i64 r.2) := cell_chg k3 ((Blk.new wr 177 [.int .i64 r.1, .int .i64 r.2]).cell 1) (fun e => by have := own_type ho e; exact absurd (lt_of_at this.choose_spec) (Nat.lt_irrefl _))
            go_wp2
            go_roundw
            · exact ⟨m + 1, max at_ (r.1 + r.2), out ++ [(at_, min r.1 L - at_)], by omega, by omega, by simp; omega, rfl, rfl, by simpa using ho3, Hgo.out, hch3⟩
            · simp only [intOf]; omega
        · have hgi : ¬ (0 : Int) < min (r.1 : Int) (L : Int) - (at_ : Int) := by omega
          have hgo := Hg1.out
          rw [if_neg hgap, List.append_nil] at hgo
          have Hgo := Lib.hid hgo
          clear hgo Hg1
          go_wp2
          go_roundw
          · exact ⟨m + 1, max at_ (r.1 + r.2), out, by omega, by omega, by omega, rfl, rfl, ho', Hgo.out, hch'⟩
          · simp only [intOf]; omega
      · go_wp2
        go_ret
        have hgo := Hgo.out
        rw [List.drop_of_length_le (by omega), freeGo, List.append_nil] at hgo
        obtain ⟨p1, p2, p3⟩ := HPo.out out hgo
        exact ⟨_, out, rfl, own_low ho hW.size, p1, p2, p3, hW.trans hch⟩
end Go.Proofs.Obj
