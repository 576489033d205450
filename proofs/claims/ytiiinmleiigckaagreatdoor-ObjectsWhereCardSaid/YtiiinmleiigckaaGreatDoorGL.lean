/- What is proved here: contracts of a head. No condition but what each theorem says. -/
import Derived.Test.YtiiinmleiigckaaGreatDoorGK
import Derived.Deep.RegionHeld3
set_option linter.unusedVariables false
set_option linter.unusedSimpArgs false

/- C4 -/
namespace Go.Proofs.Obj
open Go Go.RowKit

def zeros (n : Nat) : List UInt8 := List.replicate n 0
theorem repeatL_zero (n : Nat) : Lib.repeatL [0] n = zeros n := by
  induction n with
  | zero => rfl
  | succ n ih => simp [Lib.repeatL, ih, zeros, List.replicate_succ]
/-- So many zeros. -/
theorem rep0_spec (w : World) (n : Nat) (hn : n ≤ 4096) : Calls Tryz.prog 39 #[.string ⟨#[0]⟩, .int .i64 n] w fun e w' => e = .returned (.string (S (zeros n))) ∧ Same w w' := by
  refine (Tryz.strings_Repeat ⟨#[0]⟩ n w (by omega) (by simp [ByteArray.size]; omega)).mono ?_
  rintro e w' ⟨rfl, hb⟩
  refine ⟨?_, Chg.of_below hb⟩
  show Ending.returned (Value.string (S (Lib.repeatL [0] n))) = _
  rw [repeatL_zero]

/-- objects.sealed. -/
def sealedL (l : List UInt8) : ByteArray := crcPut (S (l ++ zeros (60 - l.length)))

set_option maxRecDepth 100000 in
theorem sealed_spec {w : World} (l : List UInt8) (hl : l.length ≤ 60) : Calls Tryz.prog 104 #[.string (S l)] w fun e w' => e = .returned (.string (sealedL l)) ∧ Same w w' := by
  have hsz := S_size l
  have hr := fun W => rep0_spec W (60 - l.length) (by omega)
  have hsub : ((60 - l.length : Nat) : Int) = 60 - (l.length : Int) := by omega
  have ha := S_append l (zeros (60 - l.length))
  have hzs : (S (zeros (60 - l.length))).size = 60 - l.length := by simp [S_size, zeros]
  have hp := fun W => put_spec (w := W) (S (l ++ zeros (60 - l.length))) (by simp [S_size, zeros]; omega)
  rw [show crcPut (S (l ++ zeros (60 - l.length))) = sealedL l from rfl] at hp
  generalize sealedL l = out at *
  generalize S (l ++ zeros (60 - l.length)) = y at *
  generalize S (zeros (60 - l.length)) = z at *
  generalize S l = s at *
  rw [hsub] at hr
  go_enter Tryz.func104, Tryz.ntmps104
  go_wp2_with (first
    | (go_at_call 39; refine (hr _).mono ?_; rintro e w1 ⟨rfl, k1⟩)
    | (go_at_call 89; refine (hp _).mono ?_; rintro e w2 ⟨rfl, k2⟩))
  go_ret
  exact ⟨rfl, k1.trans k2⟩

def mark : List UInt8 := [83, 72, 76, 70]
/-- The bytes of a head. -/
def headL (turn at_ size : Nat) : List UInt8 := mark ++ littleL turn 4 ++ littleL at_ 2 ++ littleL size 4
def headB (turn at_ size : Nat) : ByteArray := sealedL (headL turn at_ size)
def topV (turn at_ size : Nat) : Value := .agg #[.int .i64 turn, .int .i64 at_, .int .i64 size]

set_option maxRecDepth 100000 in
set_option maxHeartbeats 2000000 in
theorem toptext_spec {w : World} (turn at_ size : Nat) (h1 : turn < 4294967296) (h2 : at_ < 4294967296) (h3 : size < 4294967296) :
    Calls Tryz.prog 74 #[topV turn at_ size] w fun e w' => e = .returned (.string (headB turn at_ size)) ∧ Same w w' := by
  have hs := fun W => sealed_spec (w := W) (headL turn at_ size) (by simp [headL, littleL_length, mark])
  rw [show sealedL (headL turn at_ size) = headB turn at_ size from rfl] at hs
  have e1 : (⟨#[83, 72, 76, 70]⟩ : ByteArray) ++ S (littleL turn 4) = S (mark ++ littleL turn 4) := S_append mark _
  have e2 : S (mark ++ littleL turn 4) ++ S (littleL at_ 2) = S (mark ++ littleL turn 4 ++ littleL at_ 2) := S_append _ _
  have e3 : S (mark ++ littleL turn 4 ++ littleL at_ 2) ++ S (littleL size 4) = S (headL turn at_ size) := S_append _ _
  have z1 : (S (littleL turn 4)).size = 4 := by rw [S_size, littleL_length]
  have z2 : (S (littleL at_ 2)).size = 2 := by rw [S_size, littleL_length]
  have z3 : (S (littleL size 4)).size = 4 := by rw [S_size, littleL_length]
  have z4 : (S (mark ++ littleL turn 4)).size = 8 := by rw [S_size, List.length_append, littleL_length]; rfl
  have z5 : (S (mark ++ littleL turn 4 ++ littleL at_ 2)).size = 10 := by rw [S_size, List.length_append, List.length_append, littleL_length, littleL_length]; rfl
  have l1 : ∀ W, Calls Tryz.prog 103 #[.int .i64 turn, .int .i64 4] W fun e w' => e = .returned (.string (S (littleL turn 4))) ∧ Same W w' := fun W => little_spec turn 4 (by omega) (by omega) (by omega)
  have l2 : ∀ W, Calls Tryz.prog 103 #[.int .i64 at_, .int .i64 2] W fun e w' => e = .returned (.string (S (littleL at_ 2))) ∧ Same W w' := fun W => little_spec at_ 2 (by omega) (by omega) (by omega)
  have l3 : ∀ W, Calls Tryz.prog 103 #[.int .i64 size, .int .i64 4] W fun e w' => e = .returned (.string (S (littleL size 4))) ∧ Same W w' := fun W => little_spec size 4 (by omega) (by omega) (by omega)
  generalize headB turn at_ size = out at *
  generalize S (headL turn at_ size) = x4 at *
  generalize S (mark ++ littleL turn 4 ++ littleL at_ 2) = x3 at *
  generalize S (mark ++ littleL turn 4) = x2 at *
  generalize S (littleL turn 4) = y1 at *
  generalize S (littleL at_ 2) = y2 at *
  generalize S (littleL size 4) = y3 at *
  unfold topV
  go_enter Tryz.func74, Tryz.ntmps74
  have hbx := Blk.new w 75 [.int .i64 turn, .int .i64 at_, .int .i64 size]
  go_wp2
  have c0 := hbx.cell 0
  have c1 := hbx.cell 1
  have c2 := hbx.cell 2
  simp only [List.getElem?_cons_zero, List.getElem?_cons_succ] at c0 c1 c2
  have hSb : Same w (w.alloc (.cells [.int .i64 turn, .int .i64 at_, .int .i64 size].toArray 75)) := (Chg.refl _ w).alloc _
  generalize w.alloc (.cells [.int .i64 turn, .int .i64 at_, .int .i64 size].toArray 75) = W at *
  generalize w.heap.size = b at *
  have keepS : ∀ {w1 w2 : World}, (w1.cell? ⟨b, 0, none⟩ = some (.int .i64 turn) ∧ w1.cell? ⟨b, 1, none⟩ = some (.int .i64 at_) ∧ w1.cell? ⟨b, 2, none⟩ = some (.int .i64 size) ∧ Same w w1) → Same w1 w2 →
      (w2.cell? ⟨b, 0, none⟩ = some (.int .i64 turn) ∧ w2.cell? ⟨b, 1, none⟩ = some (.int .i64 at_) ∧ w2.cell? ⟨b, 2, none⟩ = some (.int .i64 size) ∧ Same w w2) :=
    fun h k => ⟨cell_chg k h.1 (fun h => h), cell_chg k h.2.1 (fun h => h), cell_chg k h.2.2.1 (fun h => h), h.2.2.2.trans k⟩
  go_region_held3 (fun w' => w'.cell? ⟨b, 0, none⟩ = some (.int .i64 turn) ∧ w'.cell? ⟨b, 1, none⟩ = some (.int .i64 at_) ∧ w'.cell? ⟨b, 2, none⟩ = some (.int .i64 size) ∧ Same w w') (first | exact ⟨c0, c1, c2, hSb.drew⟩ | exact keepS (by assumption) (by assumption))
    (first
    | (go_at_call_of 103 (Value.int .i64 (turn : Int)); refine (l1 _).mono ?_; rintro e w1 ⟨rfl, k1⟩)
    | (go_at_call_of 103 (Value.int .i64 (at_ : Int)); refine (l2 _).mono ?_; rintro e w2 ⟨rfl, k2⟩)
    | (go_at_call_of 103 (Value.int .i64 (size : Int)); refine (l3 _).mono ?_; rintro e w3 ⟨rfl, k3⟩)
    | (go_at_call 104; refine (hs _).mono ?_; rintro e w4 ⟨rfl, k4⟩))
  go_wp2
  go_ret
  exact ⟨rfl, by rename_i h; exact h.2.2.2⟩

/-- What objects.topOf finds. -/
structure Top where
  turn : Nat
  at_ : Nat
  size : Nat
def Top.B (t : Top) : ByteArray := headB t.turn t.at_ t.size
def Top.none : Top := ⟨0, 0, 0⟩
/-- Three numbers that a reader takes behind a mark. -/
def topRead (l : List UInt8) : Top :=
  ⟨numL (tt (tt l 4).2 4).1, numL (tt (tt (tt l 4).2 4).2 2).1, numL (tt (tt (tt (tt l 4).2 4).2 2).2 4).1⟩
def topOfF (s : ByteArray) : Top × Bool :=
  match crcGet s with
  | .none => (Top.none, false)
  | some b => if (tt b.data.toList 4).1 = mark then (topRead b.data.toList, decide (0 < (topRead b.data.toList).turn) && ((topRead b.data.toList).B.toList == s.toList)) else (Top.none, false)
theorem tt_len (l : List UInt8) (n : Nat) : (tt l n).1.length ≤ n ∧ (tt l n).2.length ≤ l.length := by
  unfold tt
  split
  · simp; omega
  · simp
theorem numL_tt (l : List UInt8) (n : Nat) (hn : n ≤ 4) : numL (tt l n).1 < 4294967296 := by
  have h := numL_lt (tt l n).1
  have h2 := (tt_len l n).1
  have h3 : 2 ^ (8 * (tt l n).1.length) ≤ 2 ^ 32 := Nat.pow_le_pow_right (by omega) (by omega)
  omega

end Go.Proofs.Obj
