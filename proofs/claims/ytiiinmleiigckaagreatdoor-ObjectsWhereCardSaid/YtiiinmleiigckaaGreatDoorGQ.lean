/- What is proved here: maps; contracts of a store that is read. No condition but what each theorem says. -/
import Derived.Test.YtiiinmleiigckaaGreatDoorGP
import Derived.Maps.Range
import Derived.Maps.Views
import Derived.Maps.OwnOps
set_option linter.unusedVariables false
set_option linter.unusedSimpArgs false

/- M1 -/
namespace Go.Proofs.Obj
open Go Go.RowKit
open Go.Maps (Keyed)

/-- An element as it stands. -/
def HR (v : Value) : Option (DataW Value × List MemPlace) := some (.held v, [])
/-- Keys with values, rising. -/
abbrev KV := List (List UInt8 × Value)
def toL (l : KV) : List (Lit × DataW Value) := l.map fun x => (.string x.1, .held x.2)
/-- A block is a map with just these. -/
def MapAt (kt : TypeId) (w : World) (b : Nat) (l : KV) : Prop := w.ownsMap Tryz.prog kt HR b l.length (.map (toL l))

def kvIns (x : List UInt8 × Value) : KV → KV
  | [] => [x]
  | y :: r => if bytesBefore x.1 y.1 then x :: y :: r else y :: kvIns x r
def kvDel (k : List UInt8) (l : KV) : KV := l.filter fun p => !(p.1 == k)
def kvPut (k : List UInt8) (v : Value) (l : KV) : KV := kvIns (k, v) (kvDel k l)
def kvGet (k : List UInt8) (l : KV) : Option Value := (l.find? fun p => p.1 == k).map (·.2)

theorem toL_ins (x : List UInt8 × Value) : ∀ l : KV, toL (kvIns x l) = DataW.insert (.string x.1, .held x.2) (toL l)
  | [] => rfl
  | y :: r => by
    have ih := toL_ins x r
    cases h : bytesBefore x.1 y.1
    · have e1 : kvIns x (y :: r) = y :: kvIns x r := by rw [kvIns, h]; rfl
      have e2 : DataW.insert (.string x.1, .held x.2) (toL (y :: r)) = (Lit.string y.1, DataW.held y.2) :: DataW.insert (.string x.1, .held x.2) (toL r) := by
        show (if bytesBefore x.1 y.1 then _ else _) = _
        rw [h]; rfl
      rw [e1, e2, ← ih]; rfl
    · have e1 : kvIns x (y :: r) = x :: y :: r := by rw [kvIns, h]; rfl
      have e2 : DataW.insert (.string x.1, .held x.2) (toL (y :: r)) = (Lit.string x.1, DataW.held x.2) :: toL (y :: r) := by
        show (if bytesBefore x.1 y.1 then _ else _) = _
        rw [h]; rfl
      rw [e1, e2]; rfl
theorem toL_del (k : List UInt8) (l : KV) : toL (kvDel k l) = (toL l).filter fun p => !p.1.sameKey (.string k) := by
  unfold toL kvDel
  rw [List.filter_map]
  rfl
theorem toL_put (k : List UInt8) (v : Value) (l : KV) : (DataW.map (toL l)).put (.string k) (.held v) = .map (toL (kvPut k v l)) := by
  simp only [DataW.put, kvPut, toL_ins, toL_del]
theorem toL_delD (k : List UInt8) (l : KV) : (DataW.map (toL l)).del (.string k) = .map (toL (kvDel k l)) := by
  simp only [DataW.del, toL_del]
theorem toL_get (k : List UInt8) (l : KV) (z : DataW Value) : (DataW.map (toL l)).atKey (.string k) z = match kvGet k l with | some v => .held v | none => z := by
  unfold DataW.atKey kvGet toL
  dsimp only
  rw [List.find?_map]
  have e : ((fun p : Lit × DataW Value => p.1.sameKey (.string k)) ∘ fun x : List UInt8 × Value => (Lit.string x.1, DataW.held x.2)) = fun p => p.1 == k := rfl
  rw [e]
  cases l.find? fun p => p.1 == k <;> rfl

theorem own_exact {kt : TypeId} {w : World} {b n : Nat} {l : KV} (h : w.ownsMap Tryz.prog kt HR b n (.map (toL l))) : MapAt kt w b l := by
  obtain ⟨es, clock, hb, F, hs, hD⟩ := h
  refine ⟨es, clock, hb, F, ?_, hD⟩
  have := congrArg Go.Maps.size hD
  rw [Go.Maps.size_eq, Go.Maps.size_eq, length_sorted] at this
  simp [toL] at this
  omega

theorem MapAt.chg {kt : TypeId} {w w' : World} {b : Nat} {l : KV} (h : MapAt kt w b l) {S : Nat → Prop} (k : Chg S w w') (hn : ¬ S b) : MapAt kt w' b l := by
  obtain ⟨es, clock, hb, r⟩ := h
  exact ⟨es, clock, k.at_ hb hn, r⟩
theorem MapAt.same {kt : TypeId} {w w' : World} {b : Nat} {l : KV} (h : MapAt kt w b l) (k : Same w w') : MapAt kt w' b l := h.chg k (fun h => h)
theorem MapAt.lt {kt : TypeId} {w : World} {b : Nat} {l : KV} (h : MapAt kt w b l) : b < w.heap.size := World.ownsMap.lt h
theorem MapAt.made (kt : TypeId) (w : World) : MapAt kt (w.alloc (.map #[] 0)) w.heap.size [] := World.ownsMap_made w _ _ _
theorem MapAt.ne {kt : TypeId} {w : World} {b g : Nat} {l : KV} {t : TypeId} {c : List Value} (h : MapAt kt w b l) (hb : Blk w g t c) : b ≠ g := by
  rintro rfl
  obtain ⟨es, clock, h1, _⟩ := h
  have := h1.symm.trans hb.at_
  cases this

/-- What a look-up hands back. -/
def lookV (ok : Bool) (o : Option Value) (z : Value) : Value := if ok then (match o with | some v => .tuple #[v, .bool true] | none => .tuple #[z, .bool false]) else o.getD z

theorem keyOfS {kt : TypeId} (hk : Tryz.prog.underlying kt = some .string) (s : ByteArray) (hs : s.size ≤ maxLen) : keyOf Tryz.prog kt (.string s) = some (.string s.data.toList) := by
  simp [keyOf, hk, mapKey, hs]

theorem MapAt.look {kt t e : TypeId} {w : World} {b : Nat} {l : KV} (h : MapAt kt w b l) (hk : Tryz.prog.underlying kt = some .string) (ht : Tryz.prog.underlying t = some (.map kt e)) {z : Value} (hz : (zeroValue e).run Tryz.prog w = .ok z w)
    (s : ByteArray) (hs : s.size ≤ maxLen) (ok : Bool) : (Instr.lookup t (.map (some b)) (.string s) ok).run Tryz.prog w = .ok (lookV ok (kvGet s.data.toList l) z) w := by
  obtain ⟨es, clock, hb, F, _, hD⟩ := h
  rcases Maps.fit_look ok (Maps.string_keyed hk) ht hz hb F (keyOfS hk s hs) with ⟨hrun, _, hat⟩ | ⟨e0, y, _, _, hrun, hR, hat, _⟩
  · have h1 := hat (.lit (.bool true))
    rw [← hD, toL_get] at h1
    rw [hrun]
    cases hg : kvGet s.data.toList l with
    | none => cases ok <;> rfl
    | some v => rw [hg] at h1; cases h1
  · have h1 := hat (.lit (.bool true))
    cases hR
    rw [← hD, toL_get] at h1
    rw [hrun]
    cases hg : kvGet s.data.toList l with
    | none => rw [hg] at h1; cases h1
    | some v =>
      rw [hg] at h1
      have : v = e0.val := by simpa using h1
      subst this
      cases ok <;> rfl

theorem MapAt.put {kt t e : TypeId} {w : World} {b : Nat} {l : KV} (h : MapAt kt w b l) (hk : Tryz.prog.underlying kt = some .string) (ht : Tryz.prog.underlying t = some (.map kt e)) (hn : l.length < maxLen) (s : ByteArray) (hs : s.size ≤ maxLen) (v : Value) :
    ∃ w', (Instr.mapUpdate t (.map (some b)) (.string s) v).run Tryz.prog w = .ok () w' ∧ MapAt kt w' b (kvPut s.data.toList v l) ∧ Chg (fun k => k = b) w w' := by
  obtain ⟨w', hrun, hown, hg⟩ := World.ownsMap.update h (Maps.string_keyed hk) ht hn (keyOfS hk s hs) (val := v) (d := .held v) (ps := []) rfl
  rw [toL_put] at hown
  exact ⟨w', hrun, own_exact hown, (Chg.of_grown hg).mono (fun k _ e => by cases e; rfl)⟩
end Go.Proofs.Obj

/- S1 -/
namespace Go.Proofs.Obj
open Go Go.RowKit

/-- A store's block. -/
def SB (w : World) (s d mb : Nat) (turn : Int) (iv : Value) (down : Bool) : Prop := Blk w s 73 [.pointer (some ⟨d, 0, none⟩), .map (some mb), .int .i64 turn, iv, .bool down]

theorem DiskAt.ne_of {w : World} {L : DL} {D : Dk} (h : DiskAt w L D) {b : Nat} {t : TypeId} {c : List Value} (hb : Blk w b t c) (h1 : t ≠ 87) (h2 : t ≠ 9) (h3 : t ≠ 119) : ¬ L.fp b := by
  rintro (rfl | rfl | h')
  · exact hb.type_ne h.blk h1 rfl
  · exact hb.type_ne h.fblk h2 rfl
  · exact own_ne h.row hb (fun e => h3 e.symm) h'

/-- (*Store).read: of a disk that is up. -/
theorem sread_up {w : World} {s mb : Nat} {turn : Int} {iv : Value} {down : Bool} {L : DL} {D : Dk} (hs : SB w s L.d mb turn iv down) (hD : DiskAt w L D) (hl : D.loose.length ≤ 65536) (hup : D.down = false) (i : Int) :
    Calls Tryz.prog 48 #[.pointer (some ⟨s, 0, none⟩), .int .i64 i] w fun e w' => e = .returned (.tuple #[.string (D.read i).1, .int .i64 (D.read i).2]) ∧ Same w w' := by
  have hr := read_spec hD hl i
  have h7 : ((D.read i).2 == 7) = false := by
    unfold Dk.read
    rw [hup]
    split
    · contradiction
    · split <;> rfl
  have c0 := hs.cell 0
  simp only [List.getElem?_cons_zero] at c0
  generalize (D.read i).1 = x at *
  generalize (D.read i).2 = y at *
  go_enter Tryz.func48, Tryz.ntmps48
  go_wp2_with (first
    | (go_at_call 25; refine hr.mono ?_; rintro e w1 ⟨rfl, k1⟩))
  go_ret2
  exact ⟨rfl, k1⟩

/-- (*Store).read: of a disk that is down. -/
theorem sread_down {w : World} {s mb : Nat} {turn : Int} {iv : Value} {down : Bool} {L : DL} {D : Dk} (hs : SB w s L.d mb turn iv down) (hD : DiskAt w L D) (hl : D.loose.length ≤ 65536) (hdn : D.down = true) (i : Int) :
    Calls Tryz.prog 48 #[.pointer (some ⟨s, 0, none⟩), .int .i64 i] w fun e w' => e = .returned (.tuple #[.string ⟨#[]⟩, .int .i64 7]) ∧ SB w' s L.d mb turn iv true ∧ Chg (fun k => k = s) w w' := by
  have hr := read_spec hD hl i
  have h7 : D.read i = (⟨#[]⟩, 7) := by unfold Dk.read; rw [if_pos hdn]
  rw [h7] at hr
  have c0 := hs.cell 0
  simp only [List.getElem?_cons_zero] at c0
  go_enter Tryz.func48, Tryz.ntmps48
  go_wp2_with (first
    | (go_at_call 25; refine hr.mono ?_; rintro e w1 ⟨rfl, k1⟩; have hs1 : Blk w1 s 73 _ := hs.same k1; have c4 := hs1.cell 4; have f4 := hs1.frozen 4; simp only [List.getElem?_cons_zero, List.getElem?_cons_succ] at c4))
  go_ret2
  exact ⟨rfl, hs1.setCell 4 (.bool true), Chg.after_same k1 (Chg.set1 _ _ _ _)⟩

/-- Nothing but zeros? -/
def blankB (s : ByteArray) : Bool := (S (Lib.trimB s.data.toList 0)).toList == []
/-- One round of the look at the heads. -/
def pick (out : Top) (x : ByteArray) : Top := if (topOfF x).2 && decide (out.turn < (topOfF x).1.turn) then (topOfF x).1 else out

theorem trim_spec (w : World) (s : ByteArray) (hs : s.size ≤ 4096) : Calls Tryz.prog 56 #[.string s, .string ⟨#[0]⟩] w fun e w' => e = .returned (.string (S (Lib.trimB s.data.toList 0))) ∧ Same w w' := by
  refine (Tryz.strings_Trim_one s 0 (by decide) w (by omega)).mono ?_
  rintro e w' ⟨rfl, h⟩
  refine ⟨rfl, ?_⟩
  rcases h with rfl | rfl
  · exact .refl _ _
  · exact (Chg.refl _ _).drew
end Go.Proofs.Obj

/- S2 -/
namespace Go.Proofs.Obj
open Go Go.RowKit

def picks (x : Nat → ByteArray) : Nat → Top
  | 0 => Top.none
  | k + 1 => pick (picks x k) (x k)
def blanks (x : Nat → ByteArray) : Nat → Nat
  | 0 => 0
  | k + 1 => blanks x k + (if blankB (x k) then 1 else 0)
theorem topOf_lt (s : ByteArray) : (topOfF s).1.turn < 4294967296 := by
  unfold topOfF
  split
  · simp [Top.none]
  · split
    · exact numL_tt _ 4 (by omega)
    · simp [Top.none]
theorem picks_lt (x : Nat → ByteArray) : ∀ k, (picks x k).turn < 4294967296
  | 0 => by simp [picks, Top.none]
  | k + 1 => by
    rw [picks, pick]
    split
    · exact topOf_lt _
    · exact picks_lt x k
/-- What (*Store).head hands back. -/
def headF (x : Nat → ByteArray) : Top × Int := if (picks x 2).turn = 0 ∧ blanks x 2 < 2 then (Top.none, 8) else (picks x 2, 0)

theorem Blk.st3A {w : World} {b : Nat} {t : TypeId} {x0 x1 x2 : Value} (h : Blk w b t [x0, x1, x2]) :
    (∀ o, (w.alloc o).cell? ⟨b, 0, none⟩ = some x0) ∧ (∀ o, (w.alloc o).cell? ⟨b, 1, none⟩ = some x1) ∧ (∀ o, (w.alloc o).cell? ⟨b, 2, none⟩ = some x2) ∧
    (∀ o, (w.alloc o).frozen? ⟨b, 0, none⟩ = false) ∧ (∀ o, (w.alloc o).frozen? ⟨b, 1, none⟩ = false) ∧ (∀ o, (w.alloc o).frozen? ⟨b, 2, none⟩ = false) ∧
    (∀ o y, ((w.alloc o).setCell ⟨b, 0, none⟩ y).cell? ⟨b, 1, none⟩ = some x1) ∧ (∀ o y, ((w.alloc o).setCell ⟨b, 0, none⟩ y).frozen? ⟨b, 1, none⟩ = false) ∧
    (∀ o y z, (((w.alloc o).setCell ⟨b, 0, none⟩ y).setCell ⟨b, 1, none⟩ z).cell? ⟨b, 2, none⟩ = some x2) ∧ (∀ o y z, (((w.alloc o).setCell ⟨b, 0, none⟩ y).setCell ⟨b, 1, none⟩ z).frozen? ⟨b, 2, none⟩ = false) :=
  ⟨fun o => (h.alloc o).st3.1, fun o => (h.alloc o).st3.2.1, fun o => (h.alloc o).st3.2.2.1, fun o => (h.alloc o).st3.2.2.2.1, fun o => (h.alloc o).st3.2.2.2.2.1, fun o => (h.alloc o).st3.2.2.2.2.2.1,
    fun o => (h.alloc o).st3.2.2.2.2.2.2.1, fun o => (h.alloc o).st3.2.2.2.2.2.2.2.1, fun o => (h.alloc o).st3.2.2.2.2.2.2.2.2.1, fun o => (h.alloc o).st3.2.2.2.2.2.2.2.2.2⟩

set_option maxRecDepth 100000 in
set_option maxHeartbeats 4000000 in
theorem head_up {w : World} {s mb : Nat} {turn : Int} {iv : Value} {down : Bool} {L : DL} {D : Dk} (hs : SB w s L.d mb turn iv down) (hD : DiskAt w L D) (hl : D.loose.length ≤ 65536) (hup : D.down = false) (hlen : 2 ≤ D.firm.length)
    (hsz : ∀ k, (D.sector k).size ≤ 4096) :
    Calls Tryz.prog 32 #[.pointer (some ⟨s, 0, none⟩)] w fun e w' => e = .returned (.tuple #[topV (headF D.sector).1.turn (headF D.sector).1.at_ (headF D.sector).1.size, .int .i64 (headF D.sector).2]) ∧ Same w w' := by
  have hrd : ∀ W (k : Nat), Same w W → k < 2 → Calls Tryz.prog 48 #[.pointer (some ⟨s, 0, none⟩), .int .i64 k] W fun e w' => e = .returned (.tuple #[.string (D.sector k), .int .i64 0]) ∧ Same W w' := by
    intro W k hW hk
    have h := sread_up (Blk.same hs hW) (hD.same hW) hl hup (k : Int)
    have e : D.read (k : Int) = (D.sector k, 0) := by
      have hh : hasB D.firm.length (k : Int) = true := by simp [hasB]; omega
      unfold Dk.read
      rw [hup, hh]
      simp
    rw [e] at h
    exact h
  have hhd : headF D.sector = if (picks D.sector 2).turn = 0 ∧ blanks D.sector 2 < 2 then (Top.none, 8) else (picks D.sector 2, 0) := rfl
  generalize headF D.sector = hf at *
  generalize D.sector = x at *
  clear hs hD hup hlen
  have hbk : ∀ k, blanks x (k + 1) = blanks x k + (if blankB (x k) then 1 else 0) := fun k => rfl
  have hpk : ∀ k, picks x (k + 1) = pick (picks x k) (x k) := fun k => rfl
  have hB0 := Blk.new w 75 [.int .i64 0, .int .i64 0, .int .i64 0]
  have hS0 : Same w (w.alloc (.cells [.int .i64 0, .int .i64 0, .int .i64 0].toArray 75)) := (Chg.refl _ w).alloc _
  unfold topV
  go_enter Tryz.func32, Tryz.ntmps32
  go_wp2
  go_loopw [4, 10] (fun bl k wr => ∃ m : Nat, m ≤ 2 ∧ k = .int .i64 m ∧ bl = .int .i64 (blanks x m : Nat) ∧ blanks x m ≤ m ∧ Blk wr w.heap.size 75 [.int .i64 (picks x m).turn, .int .i64 (picks x m).at_, .int .i64 (picks x m).size] ∧ Same w wr) (fun _ k _ => 2 - (intOf k).toNat)
  case atStart => exact ⟨0, by omega, rfl, rfl, Nat.le_refl _, hB0, hS0⟩
  case round =>
    obtain ⟨m, hm, rfl, rfl, hble, hblk, hch⟩ := hrel
    have hlt := picks_lt x m
    by_cases hm2 : m < 2
    · have hrd1 := hrd wr m hch hm2
      have htr := fun W => trim_spec W (x m) (hsz m)
      have hto := fun W => topOf_spec (w := W) (x m) (hsz m)
      unfold topV at hto
      have hlt2 := topOf_lt (x m)
      have Hb := Lib.hid (hbk m)
      have Hp := Lib.hid (hpk m)
      have hpp : pick (picks x m) (x m) = if (topOfF (x m)).2 && decide ((picks x m).turn < (topOfF (x m)).1.turn) then (topOfF (x m)).1 else picks x m := rfl
      have Hpp := Lib.hid hpp
      have hbb : blankB (x m) = ((S (Lib.trimB (x m).data.toList 0)).toList == []) := rfl
      have Hbb := Lib.hid hbb
      clear hbk hpk hpp hbb hrd hhd
      generalize picks x m = pm at *
      generalize pick pm (x m) = pm' at *
      generalize blankB (x m) = bb at *
      generalize S (Lib.trimB (x m).data.toList 0) = tr at *
      generalize (topOfF (x m)).1 = tp at *
      have hbx : blanks x (m + 1) = blanks x m + if (tr.toList == []) then 1 else 0 := by rw [Hb.out, Hbb.out]
      have hpx : pm' = if (topOfF (x m)).2 && decide (pm.turn < tp.turn) then tp else pm := Hpp.out
      clear Hb Hbb Hpp
      have Hbx := Lib.hid hbx
      have Hpx := Lib.hid hpx
      clear hbx hpx
      generalize (topOfF (x m)).2 = ok at *
      generalize hbq : (tr.toList == []) = bq at *
      have fin : ∀ (W : World) (bl : Int), bl = (blanks x (m + 1) : Nat) → Same w W → Blk W w.heap.size 75 [.int .i64 pm'.turn, .int .i64 pm'.at_, .int .i64 pm'.size] → ∃ m1 : Nat, m1 ≤ 2 ∧ Value.int .i64 ((m : Int) + 1) = .int .i64 m1 ∧ Value.int .i64 bl = .int .i64 (blanks x m1 : Nat) ∧ blanks x m1 ≤ m1 ∧
          Blk W w.heap.size 75 [.int .i64 (picks x m1).turn, .int .i64 (picks x m1).at_, .int .i64 (picks x m1).size] ∧ Same w W := by
        intro W bl hbl hW hB
        refine ⟨m + 1, by omega, rfl, by rw [hbl], ?_, by rw [Hp.out]; exact hB, hW⟩
        rw [Hbx.out]
        split <;> omega
      have Fin := Lib.hid fin
      clear fin
      cases bq <;> cases ok
      · have hbx := Hbx.out
        have hpx := Hpx.out
        simp only [Bool.false_eq_true, if_false] at hbx
        rw [Bool.false_and, if_neg (by simp)] at hpx
        have Hb1 := Lib.hid hbx
        have Hp1 := Lib.hid hpx
        clear hbx hpx Hbx Hpx
        go_wp2_with (first
          | (go_at_call 48; refine hrd1.mono ?_; rintro e w1 ⟨rfl, k1⟩)
          | (go_at_call 56; refine (htr _).mono ?_; rintro e w2 ⟨rfl, k2⟩)
          | (go_at_call 57; refine (hto _).mono ?_; rintro e w3 ⟨rfl, k3⟩; have hb3 := ((hblk.same k1).same k2).same k3; have hk3 : Same w w3 := ((hch.trans k1).trans k2).trans k3; obtain ⟨c0, c1, c2, f0, f1, f2, c01, f01, c012, f012⟩ := hb3.st3A))
        refine ⟨Fin.out _ _ (by rw [Hb1.out]; simp) (hk3.alloc _) (by rw [Hp1.out]; exact hb3.alloc _), ?_⟩
        simp only [intOf]; omega
      · by_cases hgt : pm.turn < tp.turn
        · have hbx := Hbx.out
          have hpx := Hpx.out
          simp only [Bool.false_eq_true, if_false] at hbx
          rw [decide_eq_true hgt, Bool.true_and, if_pos rfl] at hpx
          have Hb1 := Lib.hid hbx
          have Hp1 := Lib.hid hpx
          clear hbx hpx Hbx Hpx
          go_wp2_with (first
            | (go_at_call 48; refine hrd1.mono ?_; rintro e w1 ⟨rfl, k1⟩)
            | (go_at_call 56; refine (htr _).mono ?_; rintro e w2 ⟨rfl, k2⟩)
            | (go_at_call 57; refine (hto _).mono ?_; rintro e w3 ⟨rfl, k3⟩; have hb3 := ((hblk.same k1).same k2).same k3; have hk3 : Same w w3 := ((hch.trans k1).trans k2).trans k3; obtain ⟨c0, c1, c2, f0, f1, f2, c01, f01, c012, f012⟩ := hb3.st3A))
          have hb4 := (hb3.alloc (.cells #[.int .i64 tp.turn, .int .i64 tp.at_, .int .i64 tp.size] 75)).put3 (.int .i64 tp.turn) (.int .i64 tp.at_) (.int .i64 tp.size)
          have hk4 := (hk3.alloc (.cells #[.int .i64 tp.turn, .int .i64 tp.at_, .int .i64 tp.size] 75)).trans' (U := fun _ => False) (Chg.put3 _ w.heap.size (.int .i64 tp.turn) (.int .i64 tp.at_) (.int .i64 tp.size)) (fun _ _ h => h) (fun j hj e => absurd hj (by omega))
          refine ⟨Fin.out _ _ (by rw [Hb1.out]; simp) hk4 (by rw [Hp1.out]; exact hb4), ?_⟩
          simp only [intOf]; omega
        · have hbx := Hbx.out
          have hpx := Hpx.out
          simp only [Bool.false_eq_true, if_false] at hbx
          rw [decide_eq_false hgt, Bool.true_and, if_neg (by simp)] at hpx
          have Hb1 := Lib.hid hbx
          have Hp1 := Lib.hid hpx
          clear hbx hpx Hbx Hpx
          go_wp2_with (first
            | (go_at_call 48; refine hrd1.mono ?_; rintro e w1 ⟨rfl, k1⟩)
            | (go_at_call 56; refine (htr _).mono ?_; rintro e w2 ⟨rfl, k2⟩)
            | (go_at_call 57; refine (hto _).mono ?_; rintro e w3 ⟨rfl, k3⟩; have hb3 := ((hblk.same k1).same k2).same k3; have hk3 : Same w w3 := ((hch.trans k1).trans k2).trans k3; obtain ⟨c0, c1, c2, f0, f1, f2, c01, f01, c012, f012⟩ := hb3.st3A))
          refine ⟨Fin.out _ _ (by rw [Hb1.out]; simp) (hk3.alloc _) (by rw [Hp1.out]; exact hb3.alloc _), ?_⟩
          simp only [intOf]; omega
      · have hbx := Hbx.out
        have hpx := Hpx.out
        simp only [if_true] at hbx
        rw [Bool.false_and, if_neg (by simp)] at hpx
        have Hb1 := Lib.hid hbx
        have Hp1 := Lib.hid hpx
        clear hbx hpx Hbx Hpx
        go_wp2_with (first
          | (go_at_call 48; refine hrd1.mono ?_; rintro e w1 ⟨rfl, k1⟩)
          | (go_at_call 56; refine (htr _).mono ?_; rintro e w2 ⟨rfl, k2⟩)
          | (go_at_call 57; refine (hto _).mono ?_; rintro e w3 ⟨rfl, k3⟩; have hb3 := ((hblk.same k1).same k2).same k3; have hk3 : Same w w3 := ((hch.trans k1).trans k2).trans k3; obtain ⟨c0, c1, c2, f0, f1, f2, c01, f01, c012, f012⟩ := hb3.st3A))
        refine ⟨Fin.out _ _ (by rw [Hb1.out]; push_cast; rfl) (hk3.alloc _) (by rw [Hp1.out]; exact hb3.alloc _), ?_⟩
        simp only [intOf]; omega
      · by_cases hgt : pm.turn < tp.turn
        · have hbx := Hbx.out
          have hpx := Hpx.out
          simp only [if_true] at hbx
          rw [decide_eq_true hgt, Bool.true_and, if_pos rfl] at hpx
          have Hb1 := Lib.hid hbx
          have Hp1 := Lib.hid hpx
          clear hbx hpx Hbx Hpx
          go_wp2_with (first
            | (go_at_call 48; refine hrd1.mono ?_; rintro e w1 ⟨rfl, k1⟩)
            | (go_at_call 56; refine (htr _).mono ?_; rintro e w2 ⟨rfl, k2⟩)
            | (go_at_call 57; refine (hto _).mono ?_; rintro e w3 ⟨rfl, k3⟩; have hb3 := ((hblk.same k1).same k2).same k3; have hk3 : Same w w3 := ((hch.trans k1).trans k2).trans k3; obtain ⟨c0, c1, c2, f0, f1, f2, c01, f01, c012, f012⟩ := hb3.st3A))
          have hb4 := (hb3.alloc (.cells #[.int .i64 tp.turn, .int .i64 tp.at_, .int .i64 tp.size] 75)).put3 (.int .i64 tp.turn) (.int .i64 tp.at_) (.int .i64 tp.size)
          have hk4 := (hk3.alloc (.cells #[.int .i64 tp.turn, .int .i64 tp.at_, .int .i64 tp.size] 75)).trans' (U := fun _ => False) (Chg.put3 _ w.heap.size (.int .i64 tp.turn) (.int .i64 tp.at_) (.int .i64 tp.size)) (fun _ _ h => h) (fun j hj e => absurd hj (by omega))
          refine ⟨Fin.out _ _ (by rw [Hb1.out]; push_cast; rfl) hk4 (by rw [Hp1.out]; exact hb4), ?_⟩
          simp only [intOf]; omega
        · have hbx := Hbx.out
          have hpx := Hpx.out
          simp only [if_true] at hbx
          rw [decide_eq_false hgt, Bool.true_and, if_neg (by simp)] at hpx
          have Hb1 := Lib.hid hbx
          have Hp1 := Lib.hid hpx
          clear hbx hpx Hbx Hpx
          go_wp2_with (first
            | (go_at_call 48; refine hrd1.mono ?_; rintro e w1 ⟨rfl, k1⟩)
            | (go_at_call 56; refine (htr _).mono ?_; rintro e w2 ⟨rfl, k2⟩)
            | (go_at_call 57; refine (hto _).mono ?_; rintro e w3 ⟨rfl, k3⟩; have hb3 := ((hblk.same k1).same k2).same k3; have hk3 : Same w w3 := ((hch.trans k1).trans k2).trans k3; obtain ⟨c0, c1, c2, f0, f1, f2, c01, f01, c012, f012⟩ := hb3.st3A))
          refine ⟨Fin.out _ _ (by rw [Hb1.out]; push_cast; rfl) (hk3.alloc _) (by rw [Hp1.out]; exact hb3.alloc _), ?_⟩
          simp only [intOf]; omega
    · obtain rfl : m = 2 := by omega
      obtain ⟨c0, c1, c2, f0, f1, f2, c01, f01, c012, f012⟩ := hblk.st3
      clear hrd hbk hpk
      generalize picks x 2 = p at *
      generalize blanks x 2 = bl at *
      have Hhd := Lib.hid hhd
      clear hhd
      by_cases ht : p.turn = 0
      · have hti : ((p.turn : Int) == 0) = true := by simp [ht]
        by_cases hb : bl < 2
        · have hx := Hhd.out
          rw [if_pos ⟨ht, hb⟩] at hx
          have Hx := Lib.hid hx
          have hb4 := hblk.put3 (.int .i64 0) (.int .i64 0) (.int .i64 0)
          have hk4 := hch.trans' (U := fun _ => False) (Chg.put3 wr w.heap.size (.int .i64 0) (.int .i64 0) (.int .i64 0)) (fun _ _ h => h) (fun j hj e => absurd hj (by omega))
          clear hx Hhd
          go_wp2
          refine bodyPost_ret_by (results_row_tmp rfl _ _ w.heap.size 75 _ _ rfl hb4 Tryz.underlying75 rfl (by kernel_rfl)) rfl ?_
          exact ⟨by rw [Hx.out]; rfl, hk4⟩
        · have hx := Hhd.out
          rw [if_neg (fun h => hb h.2)] at hx
          have Hx := Lib.hid hx
          have hb4 := hblk.put3 (.int .i64 p.turn) (.int .i64 p.at_) (.int .i64 p.size)
          have hk4 := hch.trans' (U := fun _ => False) (Chg.put3 wr w.heap.size (.int .i64 p.turn) (.int .i64 p.at_) (.int .i64 p.size)) (fun _ _ h => h) (fun j hj e => absurd hj (by omega))
          clear hx Hhd ht
          go_wp2
          refine bodyPost_ret_by (results_row_tmp rfl _ _ w.heap.size 75 _ _ rfl hb4 Tryz.underlying75 rfl (by kernel_rfl)) rfl ?_
          exact ⟨by rw [Hx.out]; rfl, hk4⟩
      · have hti : ((p.turn : Int) == 0) = false := by simp [ht]
        have hx := Hhd.out
        rw [if_neg (fun h => ht h.1)] at hx
        have Hx := Lib.hid hx
        have hb4 := hblk.put3 (.int .i64 p.turn) (.int .i64 p.at_) (.int .i64 p.size)
        have hk4 := hch.trans' (U := fun _ => False) (Chg.put3 wr w.heap.size (.int .i64 p.turn) (.int .i64 p.at_) (.int .i64 p.size)) (fun _ _ h => h) (fun j hj e => absurd hj (by omega))
        clear hx Hhd
        go_wp2
        refine bodyPost_ret_by (results_row_tmp rfl _ _ w.heap.size 75 _ _ rfl hb4 Tryz.underlying75 rfl (by kernel_rfl)) rfl ?_
        exact ⟨by rw [Hx.out]; rfl, hk4⟩
end Go.Proofs.Obj
