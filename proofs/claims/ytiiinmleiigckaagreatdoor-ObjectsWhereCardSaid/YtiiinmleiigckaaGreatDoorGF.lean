/- What is proved here: contracts of the disk. No condition but what each theorem says. -/
import Derived.Test.YtiiinmleiigckaaGreatDoorGE
import Derived.Lib.ConvBytes
import Derived.Laws.BytesArg
set_option linter.unusedVariables false
set_option linter.unusedSimpArgs false

/- O5 -/
namespace Go.Proofs.Obj
open Go Go.RowKit

theorem bytesWorld_same (w : World) (e : TypeId) (s : ByteArray) : Same w (Lib.bytesWorld w e s) := by
  refine ⟨?_, ?_, ?_, ?_, fun k hk _ => Lib.bytesWorld_at_old w e s k hk⟩
  · unfold Lib.bytesWorld World.freeze; split <;> rfl
  · unfold Lib.bytesWorld World.freeze; split <;> rfl
  · unfold Lib.bytesWorld World.freeze; split <;> rfl
  · rw [Lib.bytesWorld_size]; omega

/-- A block of cells whose frozen range lies behind what counts. -/
def BlkF (w : World) (b : Nat) (t : TypeId) (c : List Value) : Prop := ∃ rest fr, c.length ≤ fr.1 ∧ w.heap[b]? = some (.cells (c ++ rest).toArray t fr)
theorem BlkF.cell {w : World} {b : Nat} {t : TypeId} {c : List Value} (h : BlkF w b t c) (i : Nat) (hi : i < c.length) : w.cell? ⟨b, i, none⟩ = some c[i] := by
  obtain ⟨rest, fr, _, h⟩ := h
  simp [World.cell?, h, List.getElem?_append_left hi, List.getElem?_eq_getElem hi]
theorem BlkF.frozen {w : World} {b : Nat} {t : TypeId} {c : List Value} (h : BlkF w b t c) (i : Nat) (hi : i < c.length) : w.frozen? ⟨b, i, none⟩ = false := by
  obtain ⟨rest, ⟨lo, hi'⟩, hf, h⟩ := h
  simp at hf
  simp [World.frozen?, h]; omega
theorem BlkF.lt {w : World} {b : Nat} {t : TypeId} {c : List Value} (h : BlkF w b t c) : b < w.heap.size := by
  obtain ⟨rest, fr, _, h⟩ := h
  exact lt_of_at h
theorem BlkF.chg {w w' : World} {b : Nat} {t : TypeId} {c : List Value} (h : BlkF w b t c) {S : Nat → Prop} (k : Chg S w w') (hn : ¬ S b) : BlkF w' b t c := by
  obtain ⟨rest, fr, hf, h⟩ := h
  exact ⟨rest, fr, hf, k.at_ h hn⟩
theorem BlkF.alloc {w : World} {b : Nat} {t : TypeId} {c : List Value} (h : BlkF w b t c) (o : Obj) : BlkF (w.alloc o) b t c := h.chg ((Chg.refl (fun _ => False) w).alloc o) (fun h => h)
theorem BlkF.setCell {w : World} {b : Nat} {t : TypeId} {c : List Value} (h : BlkF w b t c) (i : Nat) (v : Value) (hi : i < c.length) : BlkF (w.setCell ⟨b, i, none⟩ v) b t (c.set i v) := by
  obtain ⟨rest, fr, hf, h⟩ := h
  refine ⟨rest, fr, by simpa using hf, ?_⟩
  simp [World.setCell, Array.getElem?_modify, h, List.set_append_left, hi]

def u8s (l : List UInt8) : List Value := l.map fun b => .int .u8 b.toNat

theorem bytesCells_eq (w : World) (s : ByteArray) : Lib.bytesCells w 5 s = (u8s s.data.toList ++ List.replicate (grownCap w s.size 0 5 - s.size) (Value.int .u8 0)).toArray := by
  apply Array.ext'
  simp [Lib.bytesCells, u8s]
theorem bytesWorld_blk (w : World) (s : ByteArray) : BlkF (Lib.bytesWorld w 5 s) w.heap.size 5 (u8s s.data.toList) := by
  refine ⟨List.replicate (grownCap w s.size 0 5 - s.size) (Value.int .u8 0), ((Lib.bytesCells w 5 s).size, (Lib.bytesCells w 5 s).size + 1), ?_, ?_⟩
  · simp [bytesCells_eq]
  · rw [Lib.bytesWorld_at_new, bytesCells_eq]

/-- 'string(b)' of bytes that lie in a block. -/
theorem back_string {P : Program} {w : World} {b : Nat} {l : List UInt8} (src dst e : TypeId) (h : BlkF w b 5 (u8s l)) (hs : P.underlying src = some (.slice e)) (he : P.underlying e = some (.int .u8)) (hd : P.underlying dst = some .string) (cap : Nat) :
    (convert src dst (.slice (some ⟨b, 0, none⟩) l.length cap)).run P w = .ok (.string ⟨l.toArray⟩) w := by
  have := run_convert_bytes_arg w src e hs he b 0 l.length cap (l.map fun b => (b.toNat : Int)) (by simp) (fun i hi => by
    rw [Nat.zero_add, h.cell i (by simpa [u8s] using hi)]
    simp [u8s, hi]) dst hd
  rw [this]
  have e : strOfNums (l.map fun b => (b.toNat : Int)) = ⟨l.toArray⟩ := by
    simp [strOfNums, Function.comp_def]
  rw [e]

theorem bits_xor (x : UInt8) (n : Nat) (hn : n ≤ 255) : bits BinOp.xor IntKind.u8 ↑x.toNat ↑n = ((x ^^^ UInt8.ofNat n).toNat : Int) := by
  have e1 : BitVec.ofInt 8 (x.toNat : Int) = x.toBitVec := by apply BitVec.eq_of_toNat_eq; simp
  have e2 : BitVec.ofInt 8 (n : Int) = (UInt8.ofNat n).toBitVec := by apply BitVec.eq_of_toNat_eq; simp
  have e3 : ((x ^^^ UInt8.ofNat n).toNat : Int) = ((x.toBitVec ^^^ (UInt8.ofNat n).toBitVec).toNat : Int) := rfl
  have h := (x.toBitVec ^^^ (UInt8.ofNat n).toBitVec).isLt
  change IntKind.u8.wrap (((BitVec.ofInt 8 (x.toNat : Int)) ^^^ (BitVec.ofInt 8 (n : Int))).toNat : Int) = _
  rw [e1, e2, e3]
  generalize (x.toBitVec ^^^ (UInt8.ofNat n).toBitVec).toNat = m at *
  simp [IntKind.wrap, IntKind.signed, IntKind.bits]
  omega

/-- A byte turned in bytes. -/
def flip (s : ByteArray) (i by_ : Nat) : ByteArray := ⟨(s.data.toList.set i ((s.data.toList.getD i 0) ^^^ UInt8.ofNat by_)).toArray⟩
theorem flip_size (s : ByteArray) (i by_ : Nat) : (flip s i by_).size = s.size := by
  show ((s.data.toList.set i _).toArray).size = s.data.size
  simp

set_option maxRecDepth 100000 in
theorem turn_spec {w : World} {L : DL} {firm : List ByteArray} {fuse : Int} {down : Bool} (hD : DiskAt w L ⟨firm, [], down, fuse⟩) (i at_ by_ : Nat) (hi : i < firm.length) (ha : at_ < 64) (hb0 : 1 ≤ by_) (hb1 : by_ ≤ 255) :
    Calls Tryz.prog 27 #[.pointer (some ⟨L.d, 0, none⟩), .int .i64 i, .int .i64 at_, .int .i64 by_] w (DPost w L ⟨firm.set i (flip (firm.getD i default) at_ by_), [], down, fuse⟩ (.int .i64 0)) := by
  have c0 := hD.blk.cell 0
  have c1 := hD.blk.cell 1
  simp only [List.getElem?_cons_zero, List.getElem?_cons_succ] at c0 c1
  obtain ⟨A2, cap2, hv⟩ : ∃ A cap, L.lv = .slice A 0 cap := by
    rcases hD.row.2 with ⟨h, h0⟩ | ⟨g, cap, cur, h, _⟩
    · exact ⟨none, 0, h⟩
    · exact ⟨_, cap, h⟩
  obtain ⟨d, fb, lv⟩ := L
  dsimp only at hv
  subst hv
  dsimp only at c0 c1
  have hh : hasB firm.length i = true := by simp [hasB, hi]
  have hlen := hD.len
  dsimp only at hlen
  have e0 := hD.fblk.cell i
  rw [List.getElem?_map, List.getElem?_eq_getElem hi] at e0
  have hs := hD.szf firm[i] (List.getElem_mem hi)
  have hget : firm.getD i default = firm[i] := by simp [List.getD, hi]
  rw [hget]
  clear hget
  have Hs := Lib.hid hs
  have hs1 : at_ < firm[i].size := by omega
  clear hs
  generalize firm[i] = s at *
  have hconv := fun W => Lib.run_convert_string_bytes (P := Tryz.prog) W 9 38 5 s Tryz.underlying9 Tryz.underlying38 Tryz.underlying5
  have hbl := bytesWorld_blk w s
  have b0 := hbl.cell at_ (by simpa [u8s] using hs1)
  have b1 := hbl.frozen at_ (by simpa [u8s] using hs1)
  have b2 : (u8s s.data.toList)[at_]'(by simpa [u8s] using hs1) = .int .u8 (s.data.toList.getD at_ 0).toNat := by simp [u8s, hs1, List.getD]
  rw [b2] at b0
  clear b2
  have Hfl := Lib.hid (show flip s at_ by_ = ⟨(s.data.toList.set at_ (s.data.toList.getD at_ 0 ^^^ UInt8.ofNat by_)).toArray⟩ from rfl)
  generalize s.data.toList.getD at_ 0 = x at *
  go_enter Tryz.func27, Tryz.ntmps27
  go_wp2_with (go_at_call 53; refine (has_spec hD i).mono ?_; rintro e w' ⟨rfl, rfl⟩; rw [hh])
  have hx := bits_xor x by_ hb1
  have hb3 := hbl.setCell at_ (.int .u8 (bits BinOp.xor IntKind.u8 ↑x.toNat ↑by_)) (by simpa [u8s] using hs1)
  have hW0 : Same w ((Lib.bytesWorld w 5 s).setCell ⟨w.heap.size, at_, none⟩ (.int .u8 (bits BinOp.xor IntKind.u8 ↑x.toNat ↑by_))) := (bytesWorld_same w 5 s).setCell (fun h => absurd h (Nat.lt_irrefl _)) _
  have eq1 : (u8s s.data.toList).set at_ (.int .u8 (bits BinOp.xor IntKind.u8 ↑x.toNat ↑by_)) = u8s (s.data.toList.set at_ (x ^^^ UInt8.ofNat by_)) := by rw [hx]; simp [u8s, List.map_set]
  rw [eq1] at hb3
  generalize (Lib.bytesWorld w 5 s).setCell ⟨w.heap.size, at_, none⟩ (.int .u8 (bits BinOp.xor IntKind.u8 ↑x.toNat ↑by_)) = W at *
  clear eq1 hx b0 b1 hbl hconv c0 c1 e0
  have hDW := hD.same hW0
  have c0 := hDW.blk.cell 0
  simp only [List.getElem?_cons_zero, List.getElem?_cons_succ] at c0
  have e0 := hDW.fblk.cell i
  rw [List.getElem?_map, List.getElem?_eq_getElem hi] at e0
  have e1 := hDW.fblk.frozen i
  have hback : (convert 38 9 (.slice (some ⟨w.heap.size, 0, none⟩) s.size (grownCap w s.size 0 5))).run Tryz.prog W.drew = .ok (.string ⟨(s.data.toList.set at_ (x ^^^ UInt8.ofNat by_)).toArray⟩) W.drew := by
    have := back_string (w := W.drew) (P := Tryz.prog) 38 9 5 (hb3.chg ((Chg.refl (fun _ => False) W).drew) (fun h => h)) Tryz.underlying38 Tryz.underlying5 Tryz.underlying9 (grownCap w s.size 0 5)
    simpa using this
  generalize (s.data.toList.set at_ (x ^^^ UInt8.ofNat by_)).toArray = r at *
  go_region
  go_wp2
  go_ret
  have hc3 : Chg (fun k => k = fb) W (W.setCell ⟨fb, i, none⟩ (.string ⟨r⟩)).drew := (Chg.set1 _ _ _ _).drew
  have hc4 : Chg (fun k => k = fb) w (W.setCell ⟨fb, i, none⟩ (.string ⟨r⟩)).drew := Chg.after_same hW0 hc3
  refine ⟨rfl, ⟨d, fb, .slice A2 0 cap2⟩, ?_, hc4.mono (fun k _ e => .inr (.inl e)), rfl, rfl, fun _ h => .inl h⟩
  rw [Hfl.out]
  refine { blk := ?_, fblk := ?_, row := own_chg hDW.row hc3 (fun b hb e => own_ne hDW.row hDW.fblk (by decide) (e ▸ hb)), len := by simpa using hD.len, least := by simpa using hD.least, ats := by simp, szf := ?_, szl := by simp, fuse0 := hD.fuse0, fuse1 := hD.fuse1 }
  · have := hDW.blk.chg hc3 hDW.dne
    simpa using this
  · have := hDW.fblk.setCell i (.string ⟨r⟩)
    rw [List.map_set]
    exact this
  · intro u hu
    rcases List.mem_or_eq_of_mem_set hu with h | rfl
    · exact hD.szf u h
    · rw [← Hfl.out, flip_size, Hs.out]
end Go.Proofs.Obj
