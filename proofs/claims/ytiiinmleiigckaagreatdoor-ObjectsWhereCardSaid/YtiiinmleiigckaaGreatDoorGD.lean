/- What is proved here: contracts of the disk. No condition but what each theorem says. -/
import Derived.Test.YtiiinmleiigckaaGreatDoorProg
import Derived.Test.YtiiinmleiigckaaGreatDoorGC
import Derived.RegionTactic
import Derived.Outline
import Derived.Deep.QuietTactic
import Derived.BigQuiet
set_option linter.unusedVariables false
set_option linter.unusedSimpArgs false

/- O2 -/
namespace Go.Proofs.Obj
open Go Go.RowKit

/-- A disk: what is firm, what is loose. -/
structure Dk where
  firm : List ByteArray
  loose : List (Nat × ByteArray)
  down : Bool
  fuse : Int

/-- Where a disk lies. -/
structure DL where
  d : Nat
  fb : Nat
  lv : Value

def looseCells (l : List (Nat × ByteArray)) : List Value := l.flatMap fun x => [.int .i64 x.1, .string x.2]

structure DiskAt (w : World) (L : DL) (D : Dk) : Prop where
  blk : Blk w L.d 87 [.slice (some ⟨L.fb, 0, none⟩) D.firm.length D.firm.length, L.lv, .bool D.down, .int .i64 D.fuse]
  fblk : Blk w L.fb 9 (D.firm.map .string)
  row : w.ownsRow 0 119 2 L.lv D.loose.length (looseCells D.loose)
  len : D.firm.length ≤ 4096
  least : 0 < D.firm.length
  ats : ∀ x ∈ D.loose, x.1 < D.firm.length
  szf : ∀ s ∈ D.firm, s.size = 64
  szl : ∀ x ∈ D.loose, x.2.size = 64
  fuse0 : -1 ≤ D.fuse
  fuse1 : D.fuse ≤ 4294967296

def hasB (n : Nat) (i : Int) : Bool := decide (0 ≤ i ∧ i < n)

theorem has_spec {w : World} {L : DL} {D : Dk} (h : DiskAt w L D) (i : Int) :
    Calls Tryz.prog 53 #[.pointer (some ⟨L.d, 0, none⟩), .int .i64 i] w fun e w' => e = .returned (.bool (hasB D.firm.length i)) ∧ w = w' := by
  have c0 := h.blk.cell 0
  have hl := h.len
  simp only [List.getElem?_cons_zero] at c0
  by_cases h0 : 0 ≤ i
  · go_enter Tryz.func53, Tryz.ntmps53
    go_wp2
    go_ret
    exact ⟨by simp [hasB, h0], rfl⟩
  · go_enter Tryz.func53, Tryz.ntmps53
    go_wp2
    go_ret
    exact ⟨by simp [hasB]; omega, rfl⟩

theorem len_spec {w : World} {L : DL} {D : Dk} (h : DiskAt w L D) :
    Calls Tryz.prog 42 #[.pointer (some ⟨L.d, 0, none⟩)] w fun e w' => e = .returned (.int .i64 D.firm.length) ∧ w = w' := by
  have c0 := h.blk.cell 0
  have hl := h.len
  simp only [List.getElem?_cons_zero] at c0
  go_enter Tryz.func42, Tryz.ntmps42
  go_wp2
  go_ret
  exact ⟨rfl, rfl⟩
theorem Blk.type_ne {w : World} {b b' : Nat} {t t' : TypeId} {c c' : List Value} (h : Blk w b t c) (h' : Blk w b' t' c') (hne : t ≠ t') : b ≠ b' := by
  rintro rfl
  have := h.at_.symm.trans h'.at_
  simp only [Option.some.injEq, Obj.cells.injEq] at this
  exact hne this.2.1

theorem own_type {w : World} {base : Nat} {e : TypeId} {size n : Nat} {v : Value} {xs : List Value} (h : w.ownsRow base e size v n xs) {b : Nat} (hv : v.ownBlock = some b) : ∃ c, w.heap[b]? = some (.cells c e (0, 0)) := by
  rcases h.2 with ⟨rfl, _⟩ | ⟨g, cap, cur, rfl, _, hh, _⟩
  · simp [Value.ownBlock] at hv
  · have : g = b := by simpa [Value.ownBlock] using hv
    subst this; exact ⟨cur, hh⟩

theorem own_ne {w : World} {base : Nat} {e : TypeId} {size n : Nat} {v : Value} {xs : List Value} (h : w.ownsRow base e size v n xs) {b : Nat} {t : TypeId} {c : List Value} (h' : Blk w b t c) (hne : e ≠ t) : v.ownBlock ≠ some b := by
  intro hv
  obtain ⟨c', hc⟩ := own_type h hv
  have := hc.symm.trans h'.at_
  simp only [Option.some.injEq, Obj.cells.injEq] at this
  exact hne this.2.1

theorem own_chg {w w' : World} {base : Nat} {e : TypeId} {size n : Nat} {v : Value} {xs : List Value} (h : w.ownsRow base e size v n xs) {S : Nat → Prop} (k : Chg S w w') (hn : ∀ b, v.ownBlock = some b → ¬ S b) : w'.ownsRow base e size v n xs := by
  refine ⟨h.1, ?_⟩
  rcases h.2 with h2 | ⟨g, cap, cur, hv, hb, hh, r⟩
  · exact .inl h2
  · exact .inr ⟨g, cap, cur, hv, hb, k.at_ hh (hn g (by rw [hv]; rfl)), r⟩

/-- The blocks of a disk. -/
def DL.fp (L : DL) (k : Nat) : Prop := k = L.d ∨ k = L.fb ∨ L.lv.ownBlock = some k

theorem DiskAt.chg {w w' : World} {L : DL} {D : Dk} (h : DiskAt w L D) {S : Nat → Prop} (k : Chg S w w') (hn : ∀ b, L.fp b → ¬ S b) : DiskAt w' L D :=
  { h with blk := h.blk.chg k (hn _ (.inl rfl)), fblk := h.fblk.chg k (hn _ (.inr (.inl rfl))), row := own_chg h.row k (fun b hb => hn b (.inr (.inr hb))) }
theorem DiskAt.same {w w' : World} {L : DL} {D : Dk} (h : DiskAt w L D) (k : Same w w') : DiskAt w' L D := h.chg k (fun _ _ h => h)
theorem DiskAt.lt {w : World} {L : DL} {D : Dk} (h : DiskAt w L D) {b : Nat} (hb : L.fp b) : b < w.heap.size := by
  rcases hb with rfl | rfl | hb
  · exact h.blk.lt
  · exact h.fblk.lt
  · obtain ⟨c, hc⟩ := own_type h.row hb
    exact lt_of_at hc
theorem DiskAt.dne {w : World} {L : DL} {D : Dk} (h : DiskAt w L D) : L.d ≠ L.fb := h.blk.type_ne h.fblk (by decide)

/-- The head block written, the rest as it was. -/
theorem DiskAt.head {w w' : World} {L : DL} {D : Dk} (h : DiskAt w L D) (k : Chg (fun k => k = L.d) w w') (down : Bool) (fuse : Int)
    (hb : Blk w' L.d 87 [.slice (some ⟨L.fb, 0, none⟩) D.firm.length D.firm.length, L.lv, .bool down, .int .i64 fuse]) (h0 : -1 ≤ fuse) (h1 : fuse ≤ 4294967296) :
    DiskAt w' L { D with down := down, fuse := fuse } :=
  { blk := hb, fblk := h.fblk.chg k (fun e => h.dne e.symm), row := own_chg h.row k (fun b hb e => own_ne h.row h.blk (by decide) (e ▸ hb)), len := h.len, least := h.least, ats := h.ats, szf := h.szf, szl := h.szl, fuse0 := h0, fuse1 := h1 }

def Dk.setFuse (D : Dk) (n : Int) : Dk := { D with fuse := max (-1) n }

theorem fuse_spec {w : World} {L : DL} {D : Dk} (hD : DiskAt w L D) (n : Int) (h0 : -9223372036854775808 ≤ n) (hn : n ≤ 4294967296) :
    Calls Tryz.prog 28 #[.pointer (some ⟨L.d, 0, none⟩), .int .i64 n] w fun e w' => e = .returned (.tuple #[]) ∧ Chg (fun k => k = L.d) w w' ∧ DiskAt w' L (D.setFuse n) := by
  have c0 := hD.blk.cell 3
  have f0 := hD.blk.frozen 3
  simp only [List.getElem?_cons_zero, List.getElem?_cons_succ] at c0
  go_enter Tryz.func28, Tryz.ntmps28
  go_wp2
  all_goals (go_end0; refine ⟨rfl, Chg.set1 _ _ _ _, ?_⟩)
  · have e : max (-1) n = n := by omega
    have hb := hD.blk.setCell 3 (.int .i64 n)
    simpa [Dk.setFuse, e] using hD.head (Chg.set1 _ _ _ _) D.down n hb (by omega) hn
  · have e : max (-1) n = -1 := by omega
    have hb := hD.blk.setCell 3 (.int .i64 (-1))
    simpa [Dk.setFuse, e] using hD.head (Chg.set1 _ _ _ _) D.down (-1) hb (by omega) (by omega)

theorem Tryz.info119 : (Tryz.prog.info? 119).map (fun i => (i.zero, i.size, i.bytes)) = some (some (.agg #[.int .i64 0, .string ⟨#[]⟩]), 2, 24) := by kernel_rfl

def Dk.write (D : Dk) (i : Int) (s : ByteArray) : Dk × Int :=
  if D.down = true then (D, 7)
  else if hasB D.firm.length i = false ∨ s.size ≠ 64 then (D, 1)
  else if D.fuse = 0 then ({ D with down := true }, 7)
  else ({ D with loose := D.loose ++ [(i.toNat, s)], fuse := max (-1) (D.fuse - 1) }, 0)

/-- A disk behind a call: it lies where it lay, but for its row of loose writes. -/
def DPost (w : World) (L : DL) (D' : Dk) (r : Value) (e : Ending) (w' : World) : Prop :=
  e = .returned r ∧ ∃ L', DiskAt w' L' D' ∧ Chg L.fp w w' ∧ L'.d = L.d ∧ L'.fb = L.fb ∧ (∀ k, L'.fp k → L.fp k ∨ w.heap.size ≤ k)

theorem looseCells_append (l : List (Nat × ByteArray)) (i : Nat) (s : ByteArray) : looseCells (l ++ [(i, s)]) = looseCells l ++ [.int .i64 i, .string s] := by simp [looseCells]

theorem wrote {w W : World} {L : DL} {D : Dk} (hD : DiskAt w L D) {i : Int} {s : ByteArray} (hi : hasB D.firm.length i = true) {g cap : Nat} (hl : D.loose.length ≤ 65536)
    (hrow : W.ownsRow 0 119 2 (.slice (some ⟨g, 0, none⟩) (D.loose.length + 1) cap) (D.loose.length + 1) (looseCells D.loose ++ [.int .i64 i, .string s]))
    (hc : Chg (fun k => L.lv.ownBlock = some k) w W) (hg : L.lv.ownBlock = some g ∨ w.heap.size ≤ g) (f : Int) (hf0 : -1 ≤ f) (hf1 : f ≤ 4294967296) (hdown : D.down = false) (hs64 : s.size = 64) :
    DPost w L { D with loose := D.loose ++ [(i.toNat, s)], fuse := f } (.int .i64 0) (.returned (.int .i64 0)) ((W.setCell ⟨L.d, 1, none⟩ (.slice (some ⟨g, 0, none⟩) (D.loose.length + 1) cap)).setCell ⟨L.d, 3, none⟩ (.int .i64 f)) := by
  have hdb := hD.blk.chg hc (own_ne hD.row hD.blk (by decide))
  have hdb1 := (hdb.setCell 1 (.slice (some ⟨g, 0, none⟩) (D.loose.length + 1) cap)).setCell 3 (.int .i64 f)
  have hc2 : Chg L.fp w ((W.setCell ⟨L.d, 1, none⟩ (.slice (some ⟨g, 0, none⟩) (D.loose.length + 1) cap)).setCell ⟨L.d, 3, none⟩ (.int .i64 f)) :=
    ((hc.mono (fun k _ e => .inr (.inr e))).setCell (fun _ => .inl rfl) _).setCell (fun _ => .inl rfl) _
  have hc3 : Chg (fun k => k = L.d) W ((W.setCell ⟨L.d, 1, none⟩ (.slice (some ⟨g, 0, none⟩) (D.loose.length + 1) cap)).setCell ⟨L.d, 3, none⟩ (.int .i64 f)) :=
    (Chg.set1 _ _ _ _).trans (Chg.set1 _ _ _ _)
  have hin : 0 ≤ i ∧ i < D.firm.length := by simpa [hasB] using hi
  have e1 : ((i.toNat : Nat) : Int) = i := by omega
  have hdl := hD.blk.lt
  refine ⟨rfl, { L with lv := .slice (some ⟨g, 0, none⟩) (D.loose.length + 1) cap }, ?_, hc2, rfl, rfl, ?_⟩
  · refine { blk := ?_, fblk := (hD.fblk.chg hc (own_ne hD.row hD.fblk (by decide))).chg hc3 (fun e => hD.dne e.symm), row := ?_, len := hD.len, least := hD.least, ats := ?_, szf := hD.szf, szl := ?_, fuse0 := hf0, fuse1 := hf1 }
    · simpa [hdown] using hdb1
    · have := own_chg hrow hc3 (fun b hb e => by
        simp [Value.ownBlock] at hb
        subst hb
        rcases hg with hg | hg
        · exact own_ne hD.row hD.blk (by decide) (e ▸ hg)
        · omega)
      simpa [looseCells_append, e1] using this
    · intro x hx
      rcases List.mem_append.1 hx with hx | hx
      · exact hD.ats x hx
      · simp at hx; subst hx; simp; omega
    · intro x hx
      rcases List.mem_append.1 hx with hx | hx
      · exact hD.szl x hx
      · simp at hx; subst hx; exact hs64
  · rintro k (hk | hk | hk)
    · exact .inl (.inl hk)
    · exact .inl (.inr (.inl hk))
    · simp [Value.ownBlock] at hk
      subst hk
      rcases hg with hg | hg
      · exact .inl (.inr (.inr hg))
      · exact .inr hg

theorem write_spec {w : World} {L : DL} {D : Dk} (hD : DiskAt w L D) (i : Int) (s : ByteArray) (hs : s.size ≤ 9223372036854775807) (hl : D.loose.length ≤ 65536) :
    Calls Tryz.prog 73 #[.pointer (some ⟨L.d, 0, none⟩), .int .i64 i, .string s] w (DPost w L (D.write i s).1 (.int .i64 (D.write i s).2)) := by
  obtain ⟨firm, loose, down, fuse⟩ := D
  have c0 := hD.blk.cell 0
  have c1 := hD.blk.cell 1
  have c2 := hD.blk.cell 2
  have c3 := hD.blk.cell 3
  have f1 := hD.blk.frozen 1
  have f2 := hD.blk.frozen 2
  have f3 := hD.blk.frozen 3
  simp only [List.getElem?_cons_zero, List.getElem?_cons_succ] at c0 c1 c2 c3
  have hfuse := hD.fuse0
  have hfuse1 := hD.fuse1
  dsimp only at hfuse hfuse1 hl
  cases down
  case true =>
    have hw : Dk.write ⟨firm, loose, true, fuse⟩ i s = (⟨firm, loose, true, fuse⟩, 7) := by simp [Dk.write]
    rw [hw]
    go_enter Tryz.func73, Tryz.ntmps73
    go_wp2
    go_ret
    exact ⟨rfl, L, hD, .refl _ _, rfl, rfl, fun _ h => .inl h⟩
  cases hh : hasB firm.length i
  · have hw : Dk.write ⟨firm, loose, false, fuse⟩ i s = (⟨firm, loose, false, fuse⟩, 1) := by simp [Dk.write, hh]
    rw [hw]
    go_enter Tryz.func73, Tryz.ntmps73
    go_wp2_with (go_at_call 53; refine (has_spec hD i).mono ?_; rintro e w' ⟨rfl, rfl⟩; rw [hh])
    go_ret
    exact ⟨rfl, L, hD, .refl _ _, rfl, rfl, fun _ h => .inl h⟩
  by_cases hsz : s.size = 64
  · have hne : ((s.size : Int) != 64) = false := by simp [hsz]
    by_cases hf : fuse = 0
    · subst hf
      have hw : Dk.write ⟨firm, loose, false, 0⟩ i s = (⟨firm, loose, true, 0⟩, 7) := by simp [Dk.write, hsz, hh]
      rw [hw]
      clear hw
      go_enter Tryz.func73, Tryz.ntmps73
      go_wp2_with (go_at_call 53; refine (has_spec hD i).mono ?_; rintro e w' ⟨rfl, rfl⟩; rw [hh])
      go_ret
      exact ⟨rfl, L, hD.head (.set1 _ _ _ _) true 0 (hD.blk.setCell 2 (.bool true)) hD.fuse0 hD.fuse1, (Chg.set1 _ _ _ _).mono (fun k _ e => .inl e), rfl, rfl, fun _ h => .inl h⟩
    · have hw : Dk.write ⟨firm, loose, false, fuse⟩ i s = (⟨firm, loose ++ [(i.toNat, s)], false, max (-1) (fuse - 1)⟩, 0) := by simp [Dk.write, hsz, hh, hf]
      have hfb : (fuse == 0) = false := by simp [hf]
      rw [hw]
      clear hw
      go_enter Tryz.func73, Tryz.ntmps73
      go_wp2_with (first
        | (go_at_call 53; refine (has_spec hD i).mono ?_; rintro e w' ⟨rfl, rfl⟩; rw [hh])
        | (at_builtin; refine app_own rfl (.tmp 38) (.tmp 42) 85 119 _ 2 24 rfl Tryz.underlying85 Tryz.info119 rfl (by decide) (by decide) 0 L.lv loose.length (looseCells loose) [.int .i64 i, .string s] rfl rfl rfl ?c1 hD.row (Nat.zero_le _) ?c2 ?c3))
      case c1 => intro u hu; simp at hu; rcases hu with rfl | rfl <;> rfl
      case c2 => omega
      case c3 =>
        intro g cap W' hrow hchg hg
        have hdb := hD.blk.chg hchg (own_ne hD.row hD.blk (by decide))
        have hW := wrote hD hh hl hrow hchg hg
        have g1 := hdb.cell 1
        have g3 := hdb.cell 3
        have k1 := hdb.frozen 1
        have k3 := hdb.frozen 3
        simp only [List.getElem?_cons_zero, List.getElem?_cons_succ] at g1 g3
        go_wp2
        all_goals go_ret
        · have e : max (-1) (fuse - 1) = fuse - 1 := by omega
          rw [e]; exact hW (fuse - 1) (by omega) (by omega) trivial hsz
        · have e : max (-1) (fuse - 1) = -1 := by omega
          rw [e]; exact hW (-1) (by omega) (by omega) trivial hsz
  · have hw : Dk.write ⟨firm, loose, false, fuse⟩ i s = (⟨firm, loose, false, fuse⟩, 1) := by simp [Dk.write, hsz]
    rw [hw]
    go_enter Tryz.func73, Tryz.ntmps73
    go_wp2_with (go_at_call 53; refine (has_spec hD i).mono ?_; rintro e w' ⟨rfl, rfl⟩; rw [hh])
    go_ret
    exact ⟨rfl, L, hD, .refl _ _, rfl, rfl, fun _ h => .inl h⟩
end Go.Proofs.Obj
