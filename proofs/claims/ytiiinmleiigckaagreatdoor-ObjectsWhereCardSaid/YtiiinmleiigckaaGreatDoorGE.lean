/- What is proved here: contracts of the disk. No condition but what each theorem says. -/
import Derived.Test.YtiiinmleiigckaaGreatDoorGD
import Derived.StillTailTactics
import Derived.LoopTactic
set_option linter.unusedVariables false
set_option linter.unusedSimpArgs false

/- O3 -/
namespace Go.Proofs.Obj
open Go Go.RowKit

/-- What is firm when loose writes have been laid down. -/
def laidDown (f : List ByteArray) (l : List (Nat × ByteArray)) : List ByteArray := l.foldl (fun f x => f.set x.1 x.2) f
theorem laidDown_length (f : List ByteArray) (l : List (Nat × ByteArray)) : (laidDown f l).length = f.length := by
  induction l generalizing f with
  | nil => rfl
  | cons x l ih => simp [laidDown] at ih ⊢; rw [ih]; simp
theorem laidDown_all {p : ByteArray → Prop} (f : List ByteArray) (l : List (Nat × ByteArray)) (hf : ∀ s ∈ f, p s) (hl : ∀ x ∈ l, p x.2) : ∀ s ∈ laidDown f l, p s := by
  induction l generalizing f with
  | nil => exact hf
  | cons x l ih =>
    refine ih (f.set x.1 x.2) (fun s hs => ?_) (fun y hy => hl y (List.mem_cons_of_mem _ hy))
    rcases List.mem_or_eq_of_mem_set hs with h | rfl
    · exact hf s h
    · exact hl x List.mem_cons_self
theorem laidDown_snoc (f : List ByteArray) (l : List (Nat × ByteArray)) (x : Nat × ByteArray) : laidDown f (l ++ [x]) = (laidDown f l).set x.1 x.2 := by simp [laidDown]

def Dk.flush (D : Dk) : Dk × Int := if D.down = true then (D, 7) else ({ D with firm := laidDown D.firm D.loose, loose := [] }, 0)

theorem looseCells_at (l : List (Nat × ByteArray)) (k : Nat) (h : k < l.length) : (looseCells l)[k * 2]? = some (.int .i64 (l[k]).1) ∧ (looseCells l)[k * 2 + 1]? = some (.string (l[k]).2) := by
  induction l generalizing k with
  | nil => simp at h
  | cons x l ih =>
    cases k with
    | zero => simp [looseCells]
    | succ k =>
      have := ih k (by simpa using h)
      have e : looseCells (x :: l) = [.int .i64 x.1, .string x.2] ++ looseCells l := by simp [looseCells]
      rw [e]
      simp only [List.getElem_cons_succ, Nat.add_mul, Nat.one_mul]
      have e2 : k * 2 + 2 + 1 = k * 2 + 1 + [Value.int .i64 x.1, .string x.2].length := by simp
      rw [e2, List.getElem?_append_right (by simp), List.getElem?_append_right (by simp), Nat.add_sub_cancel]
      exact ⟨this.1, this.2⟩

/-- The cells of an owned row. -/
theorem own_nil (w : World) (base : Nat) (e : TypeId) (size : Nat) : w.ownsRow base e size (.slice none 0 0) 0 [] := World.ownsRow_nil _ _ _ _
theorem own_cells {w : World} {base : Nat} {e : TypeId} {size n g cap : Nat} {xs : List Value} (h : w.ownsRow base e size (.slice (some ⟨g, 0, none⟩) n cap) n xs) (j : Nat) (u : Value) (hu : xs[j]? = some u) : w.cell? ⟨g, j, none⟩ = some u := by
  have := h.cells (g := g) rfl j u hu
  have ha : (⟨g, 0, none⟩ : Addr).add j = ⟨g, j, none⟩ := by unfold Addr.add; split <;> simp_all
  rwa [ha] at this

set_option maxHeartbeats 1000000 in
set_option maxRecDepth 100000 in
theorem flush_spec {w : World} {L : DL} {D : Dk} (hD : DiskAt w L D) (hl : D.loose.length ≤ 65536) :
    Calls Tryz.prog 26 #[.pointer (some ⟨L.d, 0, none⟩)] w (DPost w L D.flush.1 (.int .i64 D.flush.2)) := by
  obtain ⟨firm, loose, down, fuse⟩ := D
  have c0 := hD.blk.cell 0
  have c1 := hD.blk.cell 1
  have c2 := hD.blk.cell 2
  have f1 := hD.blk.frozen 1
  simp only [List.getElem?_cons_zero, List.getElem?_cons_succ] at c0 c1 c2
  have hlen := hD.len
  dsimp only at hlen hl
  cases down
  case true =>
    have hw : Dk.flush ⟨firm, loose, true, fuse⟩ = (⟨firm, loose, true, fuse⟩, 7) := by simp [Dk.flush]
    rw [hw]
    go_enter Tryz.func26, Tryz.ntmps26
    go_wp2
    go_ret
    exact ⟨rfl, L, hD, .refl _ _, rfl, rfl, fun _ h => .inl h⟩
  have hw : Dk.flush ⟨firm, loose, false, fuse⟩ = (⟨laidDown firm loose, [], false, fuse⟩, 0) := by simp [Dk.flush]
  rw [hw]
  clear hw
  obtain ⟨A, cap, hv⟩ : ∃ A cap, L.lv = .slice A loose.length cap := by
    rcases hD.row.2 with ⟨h, h0⟩ | ⟨g, cap, cur, h, _⟩
    · exact ⟨none, 0, by rw [h]; dsimp only at h0; rw [h0]⟩
    · exact ⟨_, cap, h⟩
  obtain ⟨d, fb, lv⟩ := L
  dsimp only at hv
  subst hv
  dsimp only at c0 c1 c2 f1
  go_enter Tryz.func26, Tryz.ntmps26
  go_wp2
  have dne : d ≠ fb := hD.dne
  go_loopw [18] (fun i wr => ∃ k : Nat, k ≤ loose.length ∧ i = .int .i64 k ∧ Blk wr fb 9 ((laidDown firm (loose.take k)).map .string) ∧ Chg (fun b => b = fb) w wr) (fun i _ => loose.length - (intOf i).toNat)
  case atStart => exact ⟨0, Nat.zero_le _, rfl, hD.fblk, .refl _ _⟩
  case round =>
    obtain ⟨k, hk, rfl, hfb, hch⟩ := hrel
    have hdb := hD.blk.chg hch dne
    by_cases hlt : k < loose.length
    · have hrow := own_chg hD.row hch (fun b hb e => own_ne hD.row hD.fblk (by decide) (e ▸ hb))
      obtain ⟨g, rfl⟩ : ∃ g, A = some ⟨g, 0, none⟩ := by
        rcases hD.row.2 with ⟨_, h0⟩ | ⟨g, cap, cur, h, _⟩
        · dsimp only at h0; omega
        · exact ⟨g, by simpa using (Value.slice.inj h).1⟩
      have r0 := own_cells hrow (k * 2) _ (looseCells_at loose k hlt).1
      have r1 := own_cells hrow (k * 2 + 1) _ (looseCells_at loose k hlt).2
      have g0 := hdb.cellA 0
      simp only [List.getElem?_cons_zero, List.getElem?_cons_succ] at g0
      have hat : (loose[k]).1 < firm.length := hD.ats _ (List.getElem_mem hlt)
      have hlx : (laidDown firm (loose.take k)).length = firm.length := laidDown_length _ _
      have e0 := hfb.cellA (loose[k]).1
      rw [List.getElem?_map, List.getElem?_eq_getElem (by omega)] at e0
      have e1 := hfb.frozenA (loose[k]).1
      clear c0 c1 c2 f1
      go_wp2
      go_region
      go_wp2
      go_roundw
      case rel =>
        refine ⟨k + 1, by omega, by go_num, ?_, ?_⟩
        · have := (hfb.alloc (Obj.cells #[Value.int IntKind.i64 ↑loose[k].fst, Value.string loose[k].snd] 119)).setCell (loose[k]).1 (.string (loose[k]).2)
          rw [← List.take_append_getElem hlt, laidDown_snoc, List.map_set]
          exact this
        · exact ((hch.alloc _).setCell (p := ⟨fb, (loose[k]).1, none⟩) (fun _ => rfl) _).drew
      case measure => simp [intOf]; omega
    · have g1 := hdb.cell 1
      have k1 := hdb.frozen 1
      simp only [List.getElem?_cons_zero, List.getElem?_cons_succ] at g1
      go_wp2
      go_ret
      obtain rfl : k = loose.length := by omega
      rw [List.take_length] at hfb
      have hc3 : Chg (fun b => b = d) wr (wr.setCell ⟨d, 1, none⟩ (.slice none 0 0)) := .set1 _ _ _ _
      refine ⟨rfl, ⟨d, fb, .slice none 0 0⟩, ?_, ?_, rfl, rfl, ?_⟩
      · have hlx : (laidDown firm loose).length = firm.length := laidDown_length _ _
        refine { blk := ?_, fblk := hfb.chg hc3 (fun e => dne e.symm), row := own_nil _ _ _ _, len := ?_, least := ?_, ats := by simp, szf := laidDown_all _ _ hD.szf hD.szl, szl := by simp, fuse0 := hD.fuse0, fuse1 := hD.fuse1 }
        · have := hdb.setCell 1 (.slice none 0 0)
          simpa [hlx] using this
        · dsimp only; omega
        · have := hD.least
          dsimp only at this ⊢; omega
      · exact (hch.mono (fun b _ e => .inr (.inl e))).trans (hc3.mono (fun b _ e => .inl e))
      · rintro b (h | h | h)
        · exact .inl (.inl h)
        · exact .inl (.inr (.inl h))
        · simp [Value.ownBlock] at h
end Go.Proofs.Obj

/- O4 -/
namespace Go.Proofs.Obj
open Go Go.RowKit

/-- What lies from an address on. -/
def RdAt (w : World) (b off : Nat) (cs : List Value) : Prop := ∀ j u, cs[j]? = some u → w.cell? ⟨b, off + j, none⟩ = some u
/-- A slice that reads as cells; of none its address is nothing. -/
def Rd (w : World) (A : Option Addr) (cs : List Value) : Prop := cs = [] ∨ ∃ b off, A = some ⟨b, off, none⟩ ∧ RdAt w b off cs

theorem cell_chg {w w' : World} {S : Nat → Prop} (k : Chg S w w') {a : Addr} {v : Value} (h : w.cell? a = some v) (hn : ¬ S a.block) : w'.cell? a = some v :=
  (World.cell?_of_block (w := w) (k.block a.block (World.block_lt_of_cell? w a h) hn)).trans h
theorem RdAt.chg {w w' : World} {b off : Nat} {cs : List Value} (h : RdAt w b off cs) {S : Nat → Prop} (k : Chg S w w') (hn : ¬ S b) : RdAt w' b off cs := fun j u hu => cell_chg k (h j u hu) hn
theorem Rd.same {w w' : World} {A : Option Addr} {cs : List Value} (h : Rd w A cs) (k : Same w w') : Rd w' A cs := by
  rcases h with h | ⟨b, off, e, h⟩
  · exact .inl h
  · exact .inr ⟨b, off, e, h.chg k (fun h => h)⟩
theorem Rd.chg {w w' : World} {A : Option Addr} {cs : List Value} (h : Rd w A cs) {S : Nat → Prop} (k : Chg S w w') (hn : ∀ a, A = some a → ¬ S a.block) : Rd w' A cs := by
  rcases h with h | ⟨b, off, e, h⟩
  · exact .inl h
  · exact .inr ⟨b, off, e, h.chg k (hn _ e)⟩
theorem Rd.at_ {w : World} {A : Option Addr} {cs : List Value} (h : Rd w A cs) (hp : 0 < cs.length) : ∃ b off, A = some ⟨b, off, none⟩ ∧ RdAt w b off cs := by
  rcases h with rfl | h
  · simp at hp
  · exact h

def ints (l : List Int) : List Value := l.map (Value.int .i64)

/-- Is a number among some? -/
def hasI (xs : List Int) (v : Int) : Bool := xs.contains v

def IdxPost (c : Bool) (w : World) (e : Ending) (w' : World) : Prop := ((c = true ∧ ∃ i : Nat, e = .returned (.int .i64 i)) ∨ (c = false ∧ e = .returned (.int .i64 (-1)))) ∧ w = w'

theorem index_spec {w : World} {A : Option Addr} {n cap : Nat} {xs : List Int} (hA : Rd w A (ints xs)) (hn : n = xs.length) (hm : n ≤ 9223372036854775807) (v : Int) :
    Calls Tryz.prog 81 #[.slice A n cap, .int .i64 v] w (IdxPost (hasI xs v) w) := by
  subst hn
  go_enter Tryz.func81, Tryz.ntmps81
  go_wp2
  go_loop [8] (fun i => ∃ k : Nat, k ≤ xs.length ∧ i = .int .i64 k ∧ (xs.take k).contains v = false) (fun i => xs.length - (intOf i).toNat)
  case atStart => exact ⟨0, Nat.zero_le _, rfl, rfl⟩
  case round =>
    obtain ⟨k, hk, rfl, hc⟩ := hrel
    have Hc := Lib.hid hc
    clear hc
    by_cases hlt : k < xs.length
    · obtain ⟨b, off, rfl, hr⟩ := hA.at_ (by simp [ints]; omega)
      have c0 := hr k (.int .i64 xs[k]) (by simp [ints, hlt])
      cases hx : (v == xs[k])
      · go_wp2
        go_round
        case rel => exact ⟨k + 1, by omega, by go_num, by rw [← List.take_append_getElem hlt, List.contains_append, Hc.out]; simpa using hx⟩
        case measure => simp [intOf]; omega
      · go_wp2
        go_ret
        have : hasI xs v = true := by unfold hasI; simp at hx ⊢; rw [hx]; exact List.getElem_mem hlt
        exact ⟨.inl ⟨this, k, rfl⟩, rfl⟩
    · go_wp2
      go_ret
      have := Hc.out
      rw [List.take_of_length_le (by omega)] at this
      change hasI xs v = false at this
      exact ⟨.inr ⟨this, rfl⟩, rfl⟩

theorem contains_spec {w : World} {A : Option Addr} {n cap : Nat} {xs : List Int} (hA : Rd w A (ints xs)) (hn : n = xs.length) (hm : n ≤ 9223372036854775807) (v : Int) :
    Calls Tryz.prog 55 #[.slice A n cap, .int .i64 v] w fun e w' => e = .returned (.bool (hasI xs v)) ∧ w = w' := by
  subst hn
  have hi := index_spec (cap := cap) hA rfl hm v
  generalize hasI xs v = c at *
  cases c
  · go_enter Tryz.func55, Tryz.ntmps55
    go_wp2_with (go_at_call 81; refine hi.mono ?_; rintro e w' ⟨⟨h, _⟩ | ⟨_, rfl⟩, rfl⟩; (cases h))
    go_ret
    exact ⟨rfl, rfl⟩
  · go_enter Tryz.func55, Tryz.ntmps55
    go_wp2_with (go_at_call 81; refine hi.mono ?_; rintro e w' ⟨⟨_, i, rfl⟩ | ⟨h, _⟩, rfl⟩; rotate_left; (cases h))
    go_ret
    exact ⟨rfl, rfl⟩

/-- Which loose writes stay in a crash: those whose numbers, from k on, are kept. -/
def keptFrom (keep : List Int) : Nat → List (Nat × ByteArray) → List ByteArray → List ByteArray
  | _, [], f => f
  | k, x :: l, f => keptFrom keep (k + 1) l (if hasI keep k then f.set x.1 x.2 else f)
theorem keptFrom_length (keep : List Int) (k : Nat) (l : List (Nat × ByteArray)) (f : List ByteArray) : (keptFrom keep k l f).length = f.length := by
  induction l generalizing k f with
  | nil => rfl
  | cons x l ih => rw [keptFrom, ih]; split <;> simp
theorem keptFrom_all {p : ByteArray → Prop} (keep : List Int) (k : Nat) (l : List (Nat × ByteArray)) (f : List ByteArray) (hf : ∀ s ∈ f, p s) (hl : ∀ x ∈ l, p x.2) : ∀ s ∈ keptFrom keep k l f, p s := by
  induction l generalizing k f with
  | nil => exact hf
  | cons x l ih =>
    refine ih (k + 1) _ (fun s hs => ?_) (fun y hy => hl y (List.mem_cons_of_mem _ hy))
    split at hs
    · rcases List.mem_or_eq_of_mem_set hs with h | rfl
      · exact hf s h
      · exact hl x List.mem_cons_self
    · exact hf s hs
theorem keptFrom_snoc (keep : List Int) (k : Nat) (l : List (Nat × ByteArray)) (f : List ByteArray) (x : Nat × ByteArray) :
    keptFrom keep k (l ++ [x]) f = if hasI keep ((k + l.length : Nat) : Int) then (keptFrom keep k l f).set x.1 x.2 else keptFrom keep k l f := by
  induction l generalizing k f with
  | nil => simp [keptFrom]
  | cons y l ih =>
    rw [List.cons_append, keptFrom, ih, keptFrom, List.length_cons, show k + 1 + l.length = k + (l.length + 1) by omega]

def Dk.crash (D : Dk) (keep : List Int) : Dk := { firm := keptFrom keep 0 D.loose D.firm, loose := [], down := false, fuse := -1 }

set_option maxHeartbeats 1000000 in
set_option maxRecDepth 100000 in
theorem crash_spec {w : World} {L : DL} {D : Dk} (hD : DiskAt w L D) (hl : D.loose.length ≤ 65536) {A : Option Addr} {cap : Nat} {xs : List Int} (hA : Rd w A (ints xs)) (hm : xs.length ≤ 9223372036854775807)
    (hAd : ∀ a, A = some a → ¬ L.fp a.block) :
    Calls Tryz.prog 29 #[.pointer (some ⟨L.d, 0, none⟩), .slice A xs.length cap] w (DPost w L (D.crash xs) (.tuple #[])) := by
  obtain ⟨firm, loose, down, fuse⟩ := D
  have c0 := hD.blk.cell 0
  have c1 := hD.blk.cell 1
  simp only [List.getElem?_cons_zero, List.getElem?_cons_succ] at c0 c1
  have hlen := hD.len
  dsimp only at hlen hl
  obtain ⟨A2, cap2, hv⟩ : ∃ A cap, L.lv = .slice A loose.length cap := by
    rcases hD.row.2 with ⟨h, h0⟩ | ⟨g, cap, cur, h, _⟩
    · exact ⟨none, 0, by rw [h]; dsimp only at h0; rw [h0]⟩
    · exact ⟨_, cap, h⟩
  obtain ⟨d, fb, lv⟩ := L
  dsimp only at hv
  subst hv
  dsimp only at c0 c1
  have dne : d ≠ fb := hD.dne
  go_enter Tryz.func29, Tryz.ntmps29
  go_wp2
  go_loopw [13] (fun i wr => ∃ k : Nat, k ≤ loose.length ∧ i = .int .i64 k ∧ Blk wr fb 9 ((keptFrom xs 0 (loose.take k) firm).map .string) ∧ Chg (fun b => b = fb) w wr) (fun i _ => loose.length - (intOf i).toNat)
  case atStart => exact ⟨0, Nat.zero_le _, rfl, hD.fblk, .refl _ _⟩
  case round =>
    obtain ⟨k, hk, rfl, hfb, hch⟩ := hrel
    have hdb := hD.blk.chg hch dne
    clear c0 c1
    by_cases hlt : k < loose.length
    · have hrow := own_chg hD.row hch (fun b hb e => own_ne hD.row hD.fblk (by decide) (e ▸ hb))
      obtain ⟨g, rfl⟩ : ∃ g, A2 = some ⟨g, 0, none⟩ := by
        rcases hD.row.2 with ⟨_, h0⟩ | ⟨g, cap, cur, h, _⟩
        · dsimp only at h0; omega
        · exact ⟨g, by simpa using (Value.slice.inj h).1⟩
      have r0 := own_cells hrow (k * 2) _ (looseCells_at loose k hlt).1
      have r1 := own_cells hrow (k * 2 + 1) _ (looseCells_at loose k hlt).2
      have g0 := hdb.cellA 0
      simp only [List.getElem?_cons_zero, List.getElem?_cons_succ] at g0
      have hat : (loose[k]).1 < firm.length := hD.ats _ (List.getElem_mem hlt)
      have hlx : (keptFrom xs 0 (loose.take k) firm).length = firm.length := keptFrom_length _ _ _ _
      have e0 := hfb.cellA (loose[k]).1
      rw [List.getElem?_map, List.getElem?_eq_getElem (by omega)] at e0
      have e1 := hfb.frozenA (loose[k]).1
      have hA' : ∀ o, Rd (wr.alloc o) A (ints xs) := fun o => (hA.chg hch (fun a ha e => hAd a ha (.inr (.inl e)))).same ((Chg.refl _ _).alloc o)
      have hcon := fun o => contains_spec (cap := cap) (hA' o) rfl hm (k : Int)
      have hsn := keptFrom_snoc xs 0 (loose.take k) firm loose[k]
      rw [List.length_take_of_le (by omega), Nat.zero_add, List.take_append_getElem hlt] at hsn
      have Hsn := Lib.hid hsn
      clear hsn
      generalize hasI xs (k : Int) = c at *
      cases c
      · go_wp2_with (go_at_call 55; refine (hcon _).mono ?_; rintro e w' ⟨rfl, rfl⟩)
        go_roundw
        case rel => exact ⟨k + 1, by omega, by go_num, by rw [Hsn.out, if_neg (by decide)]; exact hfb.alloc _, hch.alloc _⟩
        case measure => simp [intOf]; omega
      · go_wp2_with (go_at_call 55; refine (hcon _).mono ?_; rintro e w' ⟨rfl, rfl⟩)
        go_region
        go_wp2
        go_roundw
        case rel =>
          refine ⟨k + 1, by omega, by go_num, ?_, ?_⟩
          · have := (hfb.alloc (Obj.cells #[Value.int IntKind.i64 ↑loose[k].fst, Value.string loose[k].snd] 119)).setCell (loose[k]).1 (.string (loose[k]).2)
            rw [Hsn.out, if_pos trivial, List.map_set]
            exact this
          · exact ((hch.alloc _).setCell (p := ⟨fb, (loose[k]).1, none⟩) (fun _ => rfl) _).drew
        case measure => simp [intOf]; omega
    · have g1 := hdb.cell 1
      have k1 := hdb.frozen 1
      have g2 := hdb.cell 2
      have k2 := hdb.frozen 2
      have g3 := hdb.cell 3
      have k3 := hdb.frozen 3
      simp only [List.getElem?_cons_zero, List.getElem?_cons_succ] at g1 g2 g3
      go_wp2
      go_end0
      obtain rfl : k = loose.length := by omega
      rw [List.take_length] at hfb
      have hc3 : Chg (fun b => b = d) wr (((wr.setCell ⟨d, 1, none⟩ (.slice none 0 0)).setCell ⟨d, 2, none⟩ (.bool false)).setCell ⟨d, 3, none⟩ (.int .i64 (-1))) := ((Chg.set1 _ _ _ _).trans (.set1 _ _ _ _)).trans (.set1 _ _ _ _)
      refine ⟨rfl, ⟨d, fb, .slice none 0 0⟩, ?_, ?_, rfl, rfl, ?_⟩
      · have hlx : (keptFrom xs 0 loose firm).length = firm.length := keptFrom_length _ _ _ _
        refine { blk := ?_, fblk := hfb.chg hc3 (fun e => dne e.symm), row := own_nil _ _ _ _, len := ?_, least := ?_, ats := by simp [Dk.crash], szf := keptFrom_all _ _ _ _ hD.szf hD.szl, szl := by simp [Dk.crash], fuse0 := by simp [Dk.crash], fuse1 := by simp [Dk.crash] }
        · have := ((hdb.setCell 1 (.slice none 0 0)).setCell 2 (.bool false)).setCell 3 (.int .i64 (-1))
          simpa [hlx, Dk.crash] using this
        · simp only [Dk.crash]; omega
        · have := hD.least
          simp only [Dk.crash] at this ⊢; omega
      · exact (hch.mono (fun b _ e => .inr (.inl e))).trans (hc3.mono (fun b _ e => .inl e))
      · rintro b (h | h | h)
        · exact .inl (.inl h)
        · exact .inl (.inr (.inl h))
        · simp [Value.ownBlock] at h
end Go.Proofs.Obj
