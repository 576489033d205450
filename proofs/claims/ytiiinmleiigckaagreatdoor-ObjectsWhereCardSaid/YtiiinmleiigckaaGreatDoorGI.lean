/- What is proved here: contracts of the disk. No condition but what each theorem says. -/
import Derived.Test.YtiiinmleiigckaaGreatDoorGH
import Derived.Shelf.Abstract
set_option linter.unusedVariables false
set_option linter.unusedSimpArgs false

/- I3 -/
namespace Go.Proofs.Obj
open Go Go.RowKit Go.Shelf
attribute [local go_sem] Oper.semAt_some

/-- The strings of those writes that were at i. -/
def ofAt (i : Int) (l : List ((Nat × ByteArray) × Nat)) : List ByteArray := (l.filter fun x => decide ((x.1.1 : Int) = i)).map fun x => x.1.2
theorem ofAt_append (i : Int) (a b : List ((Nat × ByteArray) × Nat)) : ofAt i (a ++ b) = ofAt i a ++ ofAt i b := by simp [ofAt]
theorem ofAt_yes (i : Int) (x : (Nat × ByteArray) × Nat) (h : (x.1.1 : Int) = i) : ofAt i [x] = [x.1.2] := by simp [ofAt, h]
theorem ofAt_no (i : Int) (x : (Nat × ByteArray) × Nat) (h : (x.1.1 : Int) ≠ i) : ofAt i [x] = [] := by simp [ofAt, h]

theorem backward_call (A : Option Addr) (n c : Nat) (w : World) : Calls Tryz.prog 80 #[.slice A n c] w fun e w' => e = .returned (.func (.func 112) #[] #[.pointer (some ⟨w.heap.size, 0, none⟩)]) ∧ w.alloc (.cells #[.slice A n c] 85) = w' := by
  go_enter Tryz.func80, Tryz.ntmps80
  go_wp2
  go_ret
  exact ⟨rfl, rfl⟩

set_option maxRecDepth 100000 in
set_option maxHeartbeats 1000000 in
theorem backwardD_iter {w : World} {L : DL} {D : Dk} (hD : DiskAt w L D) (hl : D.loose.length ≤ 65536) {Bd Bi : Nat} {i : Int} (hBd : Blk w Bd 23 [.pointer (some ⟨L.d, 0, none⟩)]) (hBi : Blk w Bi 3 [.int .i64 i]) :
    Iter Tryz.prog 79 #[.pointer (some ⟨Bd, 0, none⟩), .pointer (some ⟨Bi, 0, none⟩)] (fun s : ByteArray => #[.string s]) (fun k => k = Bd ∨ k = Bi ∨ L.fp k) (ofAt i D.loose.zipIdx.reverse) w := by
  intro lo J Jx S W hsame hS hJ hJx hY h0
  obtain ⟨firm, loose, down, fuse⟩ := D
  have hDW := hD.same hsame
  have hBdW := hBd.same hsame
  have hBiW := hBi.same hsame
  obtain ⟨A, cap, hv⟩ : ∃ A cap, L.lv = .slice A loose.length cap := by
    rcases hD.row.2 with ⟨h, h0⟩ | ⟨g, cap, cur, h, _⟩
    · exact ⟨none, 0, by rw [h]; dsimp only at h0; rw [h0]⟩
    · exact ⟨_, cap, h⟩
  obtain ⟨d, fb, lv⟩ := L
  dsimp only at hv hBdW
  subst hv
  have cd := fun o => hBdW.cellA 0 o
  have c1 := fun o => hDW.blk.cellA 1 o
  simp only [List.getElem?_cons_zero, List.getElem?_cons_succ] at cd c1
  refine (callsIn_wide (n := 0)).1 ?_
  refine callsIn_of_wp_marks Tryz.func79 rfl trivial ?_ rfl
  simp only [Tryz.ntmps79, List.size_toArray, List.length_cons, List.length_nil, Nat.reduceAdd, Nat.reduceSub, Array.replicate_succ, Array.replicate_zero, List.push_toArray, List.append_toArray, List.nil_append, List.cons_append, Array.size_append]
  gi_wp2_with (refine ⟨trivial, rfl, ?_⟩; gi_at_call 80; refine (callsIn_wide.2 (backward_call A loose.length cap _)).mono ?_; rintro e w' ⟨rfl, rfl⟩)
  -- the world where the loop begins
  have hs2 : Same W ((W.alloc (Obj.cells #[Value.func (Fn.yield lo) #[] #[]] 155)).alloc (Obj.cells #[Value.slice A loose.length cap] 85)) := ((Chg.refl _ W).alloc _).alloc _
  have hb3 : Blk ((W.alloc (Obj.cells #[Value.func (Fn.yield lo) #[] #[]] 155)).alloc (Obj.cells #[Value.slice A loose.length cap] 85)) W.heap.size 155 [.func (.yield lo) #[] #[]] := (Blk.new W 155 [.func (.yield lo) #[] #[]]).alloc _
  have hbB : Blk ((W.alloc (Obj.cells #[Value.func (Fn.yield lo) #[] #[]] 155)).alloc (Obj.cells #[Value.slice A loose.length cap] 85)) (W.heap.size + 1) 85 [.slice A loose.length cap] := by
    have := Blk.new (W.alloc (Obj.cells #[Value.func (Fn.yield lo) #[] #[]] 155)) 85 [.slice A loose.length cap]
    rwa [World.size_alloc] at this
  have hsz2 : ((W.alloc (Obj.cells #[Value.func (Fn.yield lo) #[] #[]] 155)).alloc (Obj.cells #[Value.slice A loose.length cap] 85)).heap.size = W.heap.size + 2 := by simp
  have hrow2 := own_chg hDW.row hs2 (fun _ _ h => h)
  have hBi2 := hBiW.same hs2
  generalize ((W.alloc (Obj.cells #[Value.func (Fn.yield lo) #[] #[]] 155)).alloc (Obj.cells #[Value.slice A loose.length cap] 85)) = W2 at *
  have hSW : ∀ k, S k → k < W.heap.size := fun k h => (hS k h).1
  refine range_rule (gf := 112) (lb := #[.pointer (some ⟨W.heap.size + 1, 0, none⟩)]) rfl (enters_of Tryz.func112 (by kernel_rfl) rfl) (backward1_iter hbB hrow2 hl)
    (by
      rintro k (rfl | h)
      · omega
      · obtain ⟨c, hc⟩ := own_type hrow2 h
        exact lt_of_at hc)
    (fun _ => rfl) S (fun k h => ⟨by have := hSW k h; omega, fun h' => by
      rcases h' with rfl | h'
      · have := hSW _ h; omega
      · exact (hS k h).2 (.inr (.inr (.inr (.inr h'))))⟩)
    (fun pre M V => J (ofAt i pre) M V) (fun c pre M V => c = .ret ∧ Jx (ofAt i pre) M V)
    (fun pre M X Y h hc => hJ _ _ _ _ h (hc.mono (fun k _ h => ⟨by omega, h.2⟩)))
    (fun c pre M X Y h hc => ⟨h.1, hJx _ _ _ _ h.2 (hc.mono (fun k _ h => ⟨by omega, h.2⟩))⟩)
    (hJ _ _ _ _ h0 (Chg.of_same hs2)) ?round ?done ?stop
  case round =>
    rintro l pre x suf M V hx hlw hlV hMl hMV hgr hch hi K hK
    dsimp only [encW]
    gi_wp2
    refine hK _ _ ((Chg.refl _ _).alloc _) (fun V2 hc2 hi2 => ?_)
    have hVV : Same V (V.alloc (.cells #[.int .i64 x.1.1, .string x.1.2] 119)) := (Chg.refl _ _).alloc _
    have ht5 : Blk V2 V.heap.size 119 [.int .i64 x.1.1, .string x.1.2] := (Blk.new V 119 [.int .i64 x.1.1, .string x.1.2]).chg hc2 (fun e => by omega)
    have hBiV : Blk V2 Bi 3 [.int .i64 i] := ((hBi2.chg hch (fun h => (hS _ h).2 (.inr (.inl rfl)))).same hVV).chg hc2 (fun e => by have := hBi2.lt; omega)
    have hb3V : Blk V2 W.heap.size 155 [.func (.yield lo) #[] #[]] := ((hb3.chg hch (fun h => by have := hSW _ h; omega)).same hVV).chg hc2 (fun e => by omega)
    have hlV2 : V.heap.size + 1 ≤ V2.heap.size := by have := hc2.size; simpa using this
    have e0 := ht5.cell 0
    have e1 := ht5.cell 1
    have eB := hBiV.cell 0
    have e3 := hb3V.cell 0
    simp only [List.getElem?_cons_zero, List.getElem?_cons_succ] at e0 e1 eB e3
    by_cases hat : (x.1.1 : Int) = i
    · have hbe : ((x.1.1 : Int) == i) = true := by simp [hat]
      have hys : ofAt i loose.zipIdx.reverse = ofAt i pre ++ x.1.2 :: ofAt i suf := by rw [hx, show x :: suf = [x] ++ suf from rfl, ofAt_append, ofAt_append, ofAt_yes i x hat]; rfl
      obtain ⟨fn, tmps, assign, body, hy, hR⟩ := hY _ _ _ M V2 hys (by omega) (fun k hk => by have := hMV k hk; omega) hi2
      have HAt := Lib.hid hat
      have Hx := Lib.hid hx
      clear hat hx hys
      gi_wp2
      refine ⟨rfl, RoundIn.mono (F := Fence.wide) hR ?_⟩
      rintro e W' ⟨M', hgr', hch', (⟨rfl, hj'⟩ | ⟨rfl, hjx⟩)⟩
      · gi_wp2
        refine ⟨M', hgr', hch', ?_⟩
        show J (ofAt i (pre ++ [x])) M' W'
        rw [ofAt_append, ofAt_yes i x HAt.out]
        exact hj'
      · gi_wp2
        refine ⟨M', hgr', hch', rfl, ?_⟩
        show Jx (ofAt i (pre ++ [x])) M' W'
        rw [ofAt_append, ofAt_yes i x HAt.out]
        exact hjx
    · have hbe : ((x.1.1 : Int) == i) = false := by simp [hat]
      have HAt := Lib.hid hat
      have Hx := Lib.hid hx
      clear hat hx
      gi_wp2
      refine ⟨(fun _ h => by cases h), ?_⟩
      gi_wp2
      refine ⟨M, .refl _ _, .refl _ _, ?_⟩
      show J (ofAt i (pre ++ [x])) M V2
      rw [ofAt_append, ofAt_no i x HAt.out, List.append_nil]
      exact hi2
  case done =>
    rintro DD M V hD1 hK1 hMD hgr hch hi
    gi_wp2
    refine leave_loop (.inl rfl) hK1 (fun W' _ => results_none rfl _ _ _) (fun W' hc => ⟨rfl, M, ?_, ?_, .inl (hJ _ _ _ _ hi (hc.mono (fun k _ e => by subst e; exact ⟨by omega, hMD⟩)))⟩)
    · exact fun k hk => (hgr k hk).imp id (fun h => ⟨by omega, Nat.lt_of_lt_of_le h.2 hc.size⟩)
    · exact (Chg.after_same hs2 hch).trans' hc (fun _ _ h => h) (fun j hj e => by omega)
  case stop =>
    rintro DD c pre M V hD1 hK1 hMD hgr hch hpre ⟨rfl, hi⟩
    gi_wp2
    refine leave_loop (.inr rfl) hK1 (fun W' _ => results_none rfl _ _ _) (fun W' hc => ⟨rfl, M, ?_, ?_, .inr ⟨_, ?_, hJx _ _ _ _ hi (hc.mono (fun k _ e => by subst e; exact ⟨by omega, hMD⟩))⟩⟩)
    · exact fun k hk => (hgr k hk).imp id (fun h => ⟨by omega, Nat.lt_of_lt_of_le h.2 hc.size⟩)
    · exact (Chg.after_same hs2 hch).trans' hc (fun _ _ h => h) (fun j hj e => by omega)
    · obtain ⟨t, ht⟩ := hpre
      rw [← ht, ofAt_append]
      exact List.prefix_append _ _
end Go.Proofs.Obj

/- I4 -/
namespace Go.Proofs.Obj
open Go Go.RowKit Go.Shelf
attribute [local go_sem] Oper.semAt_some

/-- What a sector has. -/
def Dk.sector (D : Dk) (i : Nat) : ByteArray :=
  match ofAt i D.loose.zipIdx.reverse with
  | s :: _ => s
  | [] => D.firm.getD i default
def Dk.read (D : Dk) (i : Int) : ByteArray × Int :=
  if D.down = true then (⟨#[]⟩, 7) else if hasB D.firm.length i = false then (⟨#[]⟩, 1) else (D.sector i.toNat, 0)

theorem backward2_call (p : Option Addr) (i : Int) (w : World) : Calls Tryz.prog 54 #[.pointer p, .int .i64 i] w fun e w' => e = .returned (.func (.func 79) #[] #[.pointer (some ⟨w.heap.size, 0, none⟩), .pointer (some ⟨w.heap.size + 1, 0, none⟩)]) ∧ (w.alloc (.cells #[.pointer p] 23)).alloc (.cells #[.int .i64 i] 3) = w' := by
  go_enter Tryz.func54, Tryz.ntmps54
  go_wp2
  go_ret
  exact ⟨rfl, rfl⟩

set_option maxRecDepth 100000 in
set_option maxHeartbeats 1000000 in
theorem read_spec {w : World} {L : DL} {D : Dk} (hD : DiskAt w L D) (hl : D.loose.length ≤ 65536) (i : Int) :
    Calls Tryz.prog 25 #[.pointer (some ⟨L.d, 0, none⟩), .int .i64 i] w fun e w' => e = .returned (.tuple #[.string (D.read i).1, .int .i64 (D.read i).2]) ∧ Same w w' := by
  obtain ⟨firm, loose, down, fuse⟩ := D
  refine (callsIn_wide (n := 0)).1 ?_
  have c2 := fun o o' => (hD.blk.alloc o).cellA 2 o'
  simp only [List.getElem?_cons_zero, List.getElem?_cons_succ] at c2
  cases down
  case true =>
    have hr : Dk.read ⟨firm, loose, true, fuse⟩ i = (⟨#[]⟩, 7) := by simp [Dk.read]
    rw [hr]
    clear hr
    refine callsIn_of_wp_marks Tryz.func25 rfl trivial ?_ rfl
    simp only [Tryz.ntmps25, List.size_toArray, List.length_cons, List.length_nil, Nat.reduceAdd, Nat.reduceSub, Array.replicate_succ, Array.replicate_zero, List.push_toArray, List.append_toArray, List.nil_append, List.cons_append, Array.size_append]
    gi_wp2
    exact ⟨.tuple #[.string ⟨#[]⟩, .int .i64 7], by simp [results, Tryz.f25, go_sem], rfl, ((Chg.refl _ _).alloc _).alloc _⟩
  have hD' : ∀ o o', DiskAt ((w.alloc o).alloc o') L ⟨firm, loose, false, fuse⟩ := fun o o' => hD.same (((Chg.refl _ _).alloc _).alloc _)
  cases hh : hasB firm.length i
  · have hr : Dk.read ⟨firm, loose, false, fuse⟩ i = (⟨#[]⟩, 1) := by simp [Dk.read, hh]
    rw [hr]
    clear hr
    refine callsIn_of_wp_marks Tryz.func25 rfl trivial ?_ rfl
    simp only [Tryz.ntmps25, List.size_toArray, List.length_cons, List.length_nil, Nat.reduceAdd, Nat.reduceSub, Array.replicate_succ, Array.replicate_zero, List.push_toArray, List.append_toArray, List.nil_append, List.cons_append, Array.size_append]
    gi_wp2_with (refine ⟨trivial, rfl, ?_⟩; gi_at_call 53; refine (callsIn_wide.2 (has_spec (hD' _ _) i)).mono ?_; rintro e w' ⟨rfl, rfl⟩; rw [hh])
    exact ⟨.tuple #[.string ⟨#[]⟩, .int .i64 1], by simp [results, Tryz.f25, go_sem], rfl, ((Chg.refl _ _).alloc _).alloc _⟩
  have hr : Dk.read ⟨firm, loose, false, fuse⟩ i = (Dk.sector ⟨firm, loose, false, fuse⟩ i.toNat, 0) := by simp [Dk.read, hh]
  rw [hr]
  clear hr
  have hin : 0 ≤ i ∧ i < firm.length := by simpa [hasB] using hh
  obtain ⟨n, rfl⟩ := Int.eq_ofNat_of_zero_le hin.1
  rw [Int.toNat_natCast]
  have hn : n < firm.length := by omega
  clear hin
  generalize hsx : Dk.sector ⟨firm, loose, false, fuse⟩ n = sx
  have Hsx := Lib.hid hsx
  clear hsx
  refine callsIn_of_wp_marks Tryz.func25 rfl trivial ?_ rfl
  simp only [Tryz.ntmps25, List.size_toArray, List.length_cons, List.length_nil, Nat.reduceAdd, Nat.reduceSub, Array.replicate_succ, Array.replicate_zero, List.push_toArray, List.append_toArray, List.nil_append, List.cons_append, Array.size_append]
  gi_wp2_with (first
    | (refine ⟨trivial, rfl, ?_⟩; gi_at_call 53; refine (callsIn_wide.2 (has_spec (hD' _ _) (n : Int))).mono ?_; rintro e w' ⟨rfl, rfl⟩; rw [hh])
    | (refine ⟨trivial, rfl, ?_⟩; gi_at_call 54; refine (callsIn_wide.2 (backward2_call (some ⟨L.d, 0, none⟩) (n : Int) _)).mono ?_; rintro e w' ⟨rfl, rfl⟩))
  have hlen := hD.len
  dsimp only at hlen
  have hs4 : Same w ((((w.alloc (Obj.cells #[Value.string ⟨#[]⟩] 9)).alloc (Obj.cells #[Value.int IntKind.i64 0] 27)).alloc (Obj.cells #[Value.pointer (some ⟨L.d, 0, none⟩)] 23)).alloc (Obj.cells #[Value.int IntKind.i64 (n : Int)] 3)) := ((((Chg.refl _ _).alloc _).alloc _).alloc _).alloc _
  have hsz4 : ((((w.alloc (Obj.cells #[Value.string ⟨#[]⟩] 9)).alloc (Obj.cells #[Value.int IntKind.i64 0] 27)).alloc (Obj.cells #[Value.pointer (some ⟨L.d, 0, none⟩)] 23)).alloc (Obj.cells #[Value.int IntKind.i64 (n : Int)] 3)).heap.size = w.heap.size + 4 := by simp
  have k4 : Blk ((((w.alloc (Obj.cells #[Value.string ⟨#[]⟩] 9)).alloc (Obj.cells #[Value.int IntKind.i64 0] 27)).alloc (Obj.cells #[Value.pointer (some ⟨L.d, 0, none⟩)] 23)).alloc (Obj.cells #[Value.int IntKind.i64 (n : Int)] 3)) w.heap.size 9 [.string ⟨#[]⟩] := (((Blk.new w 9 [.string ⟨#[]⟩]).alloc _).alloc _).alloc _
  have k5 : Blk ((((w.alloc (Obj.cells #[Value.string ⟨#[]⟩] 9)).alloc (Obj.cells #[Value.int IntKind.i64 0] 27)).alloc (Obj.cells #[Value.pointer (some ⟨L.d, 0, none⟩)] 23)).alloc (Obj.cells #[Value.int IntKind.i64 (n : Int)] 3)) (w.heap.size + 1) 27 [.int .i64 0] := by
    have := Blk.new (w.alloc (Obj.cells #[Value.string ⟨#[]⟩] 9)) 27 [.int .i64 0]
    rw [World.size_alloc] at this
    exact (this.alloc _).alloc _
  have k6 : Blk ((((w.alloc (Obj.cells #[Value.string ⟨#[]⟩] 9)).alloc (Obj.cells #[Value.int IntKind.i64 0] 27)).alloc (Obj.cells #[Value.pointer (some ⟨L.d, 0, none⟩)] 23)).alloc (Obj.cells #[Value.int IntKind.i64 (n : Int)] 3)) (w.heap.size + 2) 23 [.pointer (some ⟨L.d, 0, none⟩)] := by
    have := Blk.new ((w.alloc (Obj.cells #[Value.string ⟨#[]⟩] 9)).alloc (Obj.cells #[Value.int IntKind.i64 0] 27)) 23 [.pointer (some ⟨L.d, 0, none⟩)]
    simp only [World.size_alloc] at this
    exact this.alloc _
  have k7 : Blk ((((w.alloc (Obj.cells #[Value.string ⟨#[]⟩] 9)).alloc (Obj.cells #[Value.int IntKind.i64 0] 27)).alloc (Obj.cells #[Value.pointer (some ⟨L.d, 0, none⟩)] 23)).alloc (Obj.cells #[Value.int IntKind.i64 (n : Int)] 3)) (w.heap.size + 3) 3 [.int .i64 (n : Int)] := by
    have := Blk.new (((w.alloc (Obj.cells #[Value.string ⟨#[]⟩] 9)).alloc (Obj.cells #[Value.int IntKind.i64 0] 27)).alloc (Obj.cells #[Value.pointer (some ⟨L.d, 0, none⟩)] 23)) 3 [.int .i64 (n : Int)]
    simp only [World.size_alloc] at this
    exact this
  generalize ((((w.alloc (Obj.cells #[Value.string ⟨#[]⟩] 9)).alloc (Obj.cells #[Value.int IntKind.i64 0] 27)).alloc (Obj.cells #[Value.pointer (some ⟨L.d, 0, none⟩)] 23)).alloc (Obj.cells #[Value.int IntKind.i64 (n : Int)] 3)) = W at *
  have hDW := hD.same hs4
  refine range_rule (gf := 79) (lb := #[.pointer (some ⟨w.heap.size + 2, 0, none⟩), .pointer (some ⟨w.heap.size + 3, 0, none⟩)]) rfl (enters_of Tryz.func79 (by kernel_rfl) rfl) (backwardD_iter hDW hl k6 k7)
    (by
      rintro k (rfl | rfl | h)
      · omega
      · omega
      · exact hDW.lt h)
    (fun _ => rfl) (fun k => k = w.heap.size ∨ k = w.heap.size + 1)
    (fun k h => ⟨by omega, by
      rintro (h' | h' | h')
      · omega
      · omega
      · have := hD.lt h'; omega⟩)
    (fun pre M V => pre = [] ∧ (∀ k, k = w.heap.size ∨ k = w.heap.size + 1 → M k) ∧ Blk V w.heap.size 9 [.string ⟨#[]⟩] ∧ Blk V (w.heap.size + 1) 27 [.int .i64 0]) (fun c pre M V => c = .ret ∧ ∃ s, pre = [s] ∧ Blk V w.heap.size 9 [.string s] ∧ Blk V (w.heap.size + 1) 27 [.int .i64 0])
    (fun pre M X Y h hc => ⟨h.1, h.2.1, h.2.2.1.chg hc (by omega), h.2.2.2.chg hc (by omega)⟩)
    (fun c pre M X Y h hc => by
      obtain ⟨h1, s, h2, h3, h4⟩ := h
      exact ⟨h1, s, h2, h3.chg hc (by omega), h4.chg hc (by omega)⟩)
    ⟨rfl, fun _ h => h, k4, k5⟩ ?round ?done ?stop
  case round =>
    rintro l pre x suf M V hx hlw hlV hMl hMV hgr hch ⟨rfl, hM, h4, h5⟩ K hK
    gi_wp2
    refine hK _ _ (.refl _ _) ?_
    rintro V2 hc2 ⟨_, _, h42, h52⟩
    have e4 := h42.cell 0
    have e5 := h52.cell 0
    have f4 := h42.frozen 0
    have f5 := h52.frozen 0
    simp only [List.getElem?_cons_zero] at e4 e5
    gi_wp2
    refine ⟨M, .keep _ _ _, ?_, rfl, x, rfl, ?_, ?_⟩
    · exact ((Chg.refl _ _).setCell (fun _ => hM _ (.inl rfl)) _).setCell (fun _ => hM _ (.inr rfl)) _
    · exact (h42.setCell 0 (.string x)).setOther _ _ (by simp)
    · exact (h52.setOther ⟨w.heap.size, 0, none⟩ _ (by simp)).setCell 0 (.int .i64 0)
  case done =>
    rintro DD M V hD1 hK1 hMD hgr hch ⟨hx, _, h4, h5⟩
    have hDV := hDW.chg hch (fun b hb h => by have := hD.lt hb; omega)
    have c0 := hDV.blk.cell 0
    have e4 := h4.cell 0
    have e5 := h5.cell 0
    have f4 := h4.frozen 0
    have f5 := h5.frozen 0
    simp only [List.getElem?_cons_zero, List.getElem?_cons_succ] at c0 e4 e5
    have cf := hDV.fblk.cell n
    rw [List.getElem?_map, List.getElem?_eq_getElem hn] at cf
    have hsec : Dk.sector ⟨firm, loose, false, fuse⟩ n = firm[n] := by
      unfold Dk.sector
      dsimp only
      rw [hx]
      simp [List.getD, hn]
    have hs := Hsx.out
    rw [hsec] at hs
    rw [hs] at cf
    clear hsec hx hh Hsx hs
    obtain ⟨s, rfl⟩ : ∃ s, s = sx := ⟨_, rfl⟩
    gi_wp2
    have hc0 : Chg (fun k => k = w.heap.size ∨ k = w.heap.size + 1) V ((V.setCell ⟨w.heap.size, 0, none⟩ (.string s)).setCell ⟨w.heap.size + 1, 0, none⟩ (.int .i64 0)) :=
      (Chg.setCell (p := ⟨w.heap.size, 0, none⟩) (.refl _ _) (fun _ => .inl rfl) _).setCell (p := ⟨w.heap.size + 1, 0, none⟩) (fun _ => .inr rfl) _
    have q4 := (h4.setCell 0 (.string s)).setOther ⟨w.heap.size + 1, 0, none⟩ (.int .i64 0) (by simp)
    have q5 := (h5.setOther ⟨w.heap.size, 0, none⟩ (.string s) (by simp)).setCell 0 (.int .i64 0)
    refine leave_loop (v := .tuple #[.string s, .int .i64 0]) (.inr rfl) (hc0.at_ hK1 (by omega)) (fun W' hc => ?_) (fun W' hc => ⟨rfl, ?_⟩)
    · have e4 := (q4.chg hc (by omega)).cell 0
      have e5 := (q5.chg hc (by omega)).cell 0
      simp only [List.getElem?_cons_zero, List.set_cons_zero] at e4 e5
      simp [results, Tryz.f25, go_sem, e4, e5]
    · exact ((Chg.after_same hs4 (hch.trans hc0)).trans' hc (U := fun _ => False) (fun j hj h => by omega) (fun j hj h => by omega))
  case stop =>
    rintro DD c pre M V hD1 hK1 hMD hgr hch hpre ⟨rfl, s, rfl, h4, h5⟩
    gi_wp2
    refine leave_loop (v := .tuple #[.string s, .int .i64 0]) (.inr rfl) hK1 (fun W' hc => ?_) (fun W' hc => ⟨?_, ?_⟩)
    · have e4 := (h4.chg hc (by omega)).cell 0
      have e5 := (h5.chg hc (by omega)).cell 0
      simp only [List.getElem?_cons_zero] at e4 e5
      simp [results, Tryz.f25, go_sem, e4, e5]
    · have : sx = s := by
        rw [← Hsx.out]
        unfold Dk.sector
        dsimp only
        obtain ⟨t, ht⟩ := hpre
        rw [← ht]
        rfl
      rw [this]
    · exact (Chg.after_same hs4 hch).trans' hc (U := fun _ => False) (fun j hj h => by omega) (fun j hj h => by omega)
end Go.Proofs.Obj
