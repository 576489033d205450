/- What is proved here: contracts of the sums. No condition but what each theorem says. -/
import Derived.Test.YtiiinmleiigckaaGreatDoorGJ
import Derived.Test.YtiiinmleiigckaaGreatDoorGA
set_option linter.unusedVariables false
set_option linter.unusedSimpArgs false

/- O7 -/
namespace Go.Proofs.Obj
open Go Go.RowKit

def zero64 : ByteArray := ⟨Array.replicate 64 0⟩

def NewPost (w : World) (n : Int) (e : Ending) (w' : World) : Prop :=
  if 32 ≤ n ∧ n ≤ 4096 then
    ∃ L : DL, e = .returned (.tuple #[.pointer (some ⟨L.d, 0, none⟩), .int .i64 0]) ∧ Same w w' ∧ (∀ k, L.fp k → w.heap.size ≤ k) ∧ DiskAt w' L ⟨List.replicate n.toNat zero64, [], false, -1⟩
  else e = .returned (.tuple #[.pointer none, .int .i64 1]) ∧ w = w'

set_option maxRecDepth 100000 in
theorem rep_spec (w : World) : Calls Tryz.prog 39 #[.string ⟨#[0]⟩, .int .i64 64] w fun e w' => e = .returned (.string zero64) ∧ Same w w' := by
  refine (Tryz.strings_Repeat_main ⟨#[0]⟩ 64 w (by omega) (by omega) (by simp [ByteArray.size]) (by simp [ByteArray.size])).mono ?_
  rintro e w' ⟨rfl, hb⟩
  exact ⟨rfl, Chg.of_below hb⟩

theorem mul_one (c : Nat) (hc : c ≤ 4096) (w : World) : Calls Tryz.prog 63 #[.int .u64 1, .int .u64 c] w fun e w' => e = .returned (.tuple #[.int .u64 0, .int .u64 c]) ∧ w = w' := by
  refine (Tryz.bits_Mul 1 c (by omega) (by omega) w).mono ?_
  rintro e w' ⟨rfl, rfl⟩
  refine ⟨?_, rfl⟩
  have h1 : 1 * c / 18446744073709551616 = 0 := by omega
  have h2 : 1 * c % 18446744073709551616 = c := by omega
  rw [h1, h2]
  rfl

set_option maxRecDepth 100000 in
theorem new_spec {w : World} (n : Int) : Calls Tryz.prog 18 #[.int .i64 n] w (NewPost w n) := by
  by_cases hn : 32 ≤ n ∧ n ≤ 4096
  · obtain ⟨c, rfl⟩ : ∃ c : Nat, n = c := ⟨n.toNat, by omega⟩
    go_enter Tryz.func18, Tryz.ntmps18
    go_wp2_with (first
      | (go_at_call 39; refine (rep_spec _).mono ?_; rintro e w1 ⟨rfl, k1⟩)
      | (go_at_call 38; have hb1 := Blk.new w1 9 [.string zero64]; refine (repeat_spec hb1 c (by omega) (by omega) (fun w => mul_one c (by omega) w)).mono ?_; rintro e w2 ⟨g, rfl, hg, hb2, k2⟩))
    go_ret2
    rw [NewPost, if_pos hn]
    have hd := Blk.new w2 87 [.slice (some ⟨g, 0, none⟩) c c, .slice none 0 0, .bool false, .int .i64 (-1)]
    have k12 : Same w w2 := (k1.alloc _).trans k2
    have hs1 := k1.size
    have hs2 := k12.size
    have hs3 : w1.heap.size + 1 ≤ g := by simpa using hg
    refine ⟨⟨w2.heap.size, g, .slice none 0 0⟩, rfl, k12.alloc _, ?_, ?_⟩
    · intro k hk
      rcases hk with hk | hk | hk
      · simp at hk; omega
      · simp at hk; omega
      · simp [Value.ownBlock] at hk
    · exact ⟨by simpa using hd, by simpa [strs] using hb2.alloc _, World.ownsRow_nil _ _ _ _, by simp; omega, by simp; omega, by simp, by simp [zero64]; intro _; rfl, by simp, by simp, by simp⟩
  · go_enter Tryz.func18, Tryz.ntmps18
    go_wp2
    all_goals (go_ret2; rw [NewPost, if_neg hn]; exact ⟨rfl, rfl⟩)
end Go.Proofs.Obj

/- C1 -/
namespace Go.Proofs.Obj
open Go Go.RowKit

/-- Bits turned, of 32. -/
def xo (a b : Nat) : Nat := (bits BinOp.xor IntKind.u32 a b).toNat
theorem wrap32_range (x : Int) : 0 ≤ IntKind.u32.wrap x ∧ IntKind.u32.wrap x < 4294967296 := by
  simp only [IntKind.wrap, IntKind.signed, IntKind.bits]
  simp
  omega
theorem xo_eq (a b : Nat) : bits BinOp.xor IntKind.u32 (a : Int) (b : Int) = (xo a b : Int) := by
  have h : 0 ≤ bits BinOp.xor IntKind.u32 (a : Int) (b : Int) := (wrap32_range _).1
  unfold xo
  omega
theorem xo_lt (a b : Nat) : xo a b < 4294967296 := by
  have h : bits BinOp.xor IntKind.u32 (a : Int) (b : Int) < 4294967296 := (wrap32_range _).2
  unfold xo
  omega

/-- One of crc's halvings. -/
def hstep (n : Nat) : Nat := if bits BinOp.and IntKind.u32 (n : Int) 1 ≤ 0 then n / 2 else xo (n / 2) 3988292384
def hs : Nat → Nat → Nat
  | 0, i => i
  | m + 1, i => hstep (hs m i)
theorem hstep_lt {n : Nat} (h : n < 4294967296) : hstep n < 4294967296 := by
  unfold hstep
  split
  · omega
  · exact xo_lt _ _
theorem hs_lt (m : Nat) {i : Nat} (h : i < 4294967296) : hs m i < 4294967296 := by
  induction m with
  | zero => exact h
  | succ m ih => exact hstep_lt ih

set_option maxRecDepth 100000 in
theorem half_spec {w : World} (i : Nat) (hi : i < 16) : Calls Tryz.prog 136 #[.int .i64 i] w fun e w' => e = .returned (.int .u32 (hs 4 i : Nat)) ∧ w = w' := by
  go_enter Tryz.func136, Tryz.ntmps136
  go_wp2
  go_loopw [3, 6] (fun n k wr => ∃ m : Nat, m ≤ 4 ∧ k = .int .i64 m ∧ n = .int .u32 (hs m i : Nat) ∧ w = wr) (fun _ k _ => 4 - (intOf k).toNat)
  case atStart => exact ⟨0, by omega, rfl, rfl, rfl⟩
  case round =>
    obtain ⟨m, hm, rfl, rfl, rfl⟩ := hrel
    have hb := hs_lt m (i := i) (by omega)
    have hn : hs (m + 1) i = hstep (hs m i) := rfl
    have h4 : m = 4 → hs m i = hs 4 i := fun e => by rw [e]
    generalize hs m i = n at *
    by_cases hz : bits BinOp.and IntKind.u32 (n : Int) 1 ≤ 0
    · have hn2 : hs (m + 1) i = n / 2 := by rw [hn, hstep, if_pos hz]
      clear hn
      go_wp2
      · refine ⟨⟨m + 1, by omega, rfl, by rw [hn2]; rfl, trivial⟩, ?_⟩
        simp only [intOf]
        omega
      · go_ret
        have := h4 (by omega)
        subst this
        exact ⟨rfl, rfl⟩
    · have hn2 : hs (m + 1) i = xo (n / 2) 3988292384 := by rw [hn, hstep, if_neg hz]
      clear hn
      go_wp2
      · refine ⟨⟨m + 1, by omega, rfl, by rw [hn2, ← xo_eq]; rfl, trivial⟩, ?_⟩
        simp only [intOf]
        omega
      · go_ret
        have := h4 (by omega)
        subst this
        exact ⟨rfl, rfl⟩

/-- crc's table. -/
def ctab (n : Nat) : List Value := (List.range n).map fun i => .int .u32 (hs 4 i : Nat)
theorem Tryz.info168 : (Tryz.prog.info? 168).map (fun i => (i.zero, i.size, i.bytes)) = some (some (.int .u32 0), 1, 4) := by kernel_rfl


/-- The block of an own row lies at its base or above. -/
theorem own_base {w : World} {base : Nat} {e : TypeId} {size n : Nat} {v : Value} {xs : List Value} (h : w.ownsRow base e size v n xs) {b : Nat} (hv : v.ownBlock = some b) : base ≤ b := by
  rcases h.2 with ⟨rfl, _⟩ | ⟨g, cap, cur, rfl, hb, _⟩
  · simp [Value.ownBlock] at hv
  · have : g = b := by simpa [Value.ownBlock] using hv
    omega
theorem ctab_succ (m : Nat) : ctab (m + 1) = ctab m ++ [.int .u32 (hs 4 m : Nat)] := by simp [ctab, List.range_succ]
theorem ctab_length (m : Nat) : (ctab m).length = m := by simp [ctab]

set_option maxRecDepth 100000 in
theorem filled_spec {w : World} : Calls Tryz.prog 135 #[.int .i64 16, .func (.func 136) #[] #[]] w fun e w' => ∃ g cap, e = .returned (.slice (some ⟨g, 0, none⟩) 16 cap) ∧ Same w w' ∧ RdAt w' g 0 (ctab 16) := by
  go_enter Tryz.func135, Tryz.ntmps135
  go_wp2
  go_loopw [5, 8] (fun v k wr => ∃ m : Nat, m ≤ 16 ∧ k = .int .i64 m ∧ wr.ownsRow w.heap.size 168 1 v m (ctab m) ∧ Same w wr) (fun _ k _ => 16 - (intOf k).toNat)
  case atStart => exact ⟨0, by omega, rfl, World.ownsRow_nil _ _ _ _, .refl _ _⟩
  case round =>
    obtain ⟨m, hm, rfl, hrow, hch⟩ := hrel
    by_cases hlt : m < 16
    · have hsz := hch.size
      go_wp2_with (first
        | (go_at_call 136; refine (half_spec m (by omega)).mono ?_; rintro e w' ⟨rfl, rfl⟩)
        | (at_builtin; refine app_own rfl (.tmp 11) (.tmp 15) 214 168 _ 1 4 rfl Tryz.underlying214 Tryz.info168 rfl (by decide) (by decide) w.heap.size u5 m (ctab m) [.int .u32 (hs 4 m : Nat)] rfl rfl rfl ?c1 hrow hsz ?c2 ?c3))
      case c1 => intro u hu; simp at hu; subst hu; rfl
      case c2 => omega
      case c3 =>
        intro g cap W' hr hchg hg
        rw [← ctab_succ] at hr
        have hch' : Same w W' := hch.trans' hchg (fun _ _ h => h) (fun j hj hb => absurd hj (Nat.not_lt.2 (own_base hrow hb)))
        go_wp2
        go_roundw
        · exact ⟨m + 1, by omega, rfl, hr, hch'⟩
        · simp only [intOf]; omega
    · obtain rfl : m = 16 := by omega
      obtain ⟨g, cap, rfl⟩ := ownsRow_succ hrow
      go_wp2
      go_ret
      refine ⟨g, cap, rfl, hch, fun j u hu => ?_⟩
      have := own_cells hrow j u hu
      simpa using this
end Go.Proofs.Obj

/- C2 -/
namespace Go.Proofs.Obj
open Go Go.RowKit

def crcHalf (a : Nat) : Nat := xo (a / 16) (hs 4 (a % 16))
def crcByte (n : Nat) (c : UInt8) : Nat := crcHalf (crcHalf (xo n c.toNat))
def crcRun (l : List UInt8) : Nat := l.foldl crcByte 4294967295
theorem crcHalf_lt (a : Nat) : crcHalf a < 4294967296 := xo_lt _ _
theorem crcRun_lt (l : List UInt8) : crcRun l < 4294967296 := by
  unfold crcRun
  generalize h : 4294967295 = n
  have hn : n < 4294967296 := by omega
  clear h
  induction l generalizing n with
  | nil => exact hn
  | cons c l ih => exact ih _ (crcHalf_lt _)
theorem crcRun_snoc (l : List UInt8) (c : UInt8) : crcRun (l ++ [c]) = crcByte (crcRun l) c := by simp [crcRun]
def crcSum (s : ByteArray) : Nat := xo 4294967295 (crcRun s.data.toList)
theorem crcSum_lt (s : ByteArray) : crcSum s < 4294967296 := xo_lt _ _

theorem ctab_get (j : Nat) (hj : j < 16) : (ctab 16)[j]? = some (.int .u32 (hs 4 j : Nat)) := by simp [ctab, hj]
set_option maxRecDepth 100000 in
theorem sum_spec {w : World} (s : ByteArray) (hs0 : s.size ≤ 140737488355328) : Calls Tryz.prog 117 #[.string s] w fun e w' => e = .returned (.int .u32 (crcSum s : Nat)) ∧ Same w w' := by
  have hconv := fun W => Lib.run_convert_string_bytes (P := Tryz.prog) W 9 38 5 s Tryz.underlying9 Tryz.underlying38 Tryz.underlying5
  go_enter Tryz.func117, Tryz.ntmps117
  go_wp2_with (first
    | (go_at_call 135; refine (filled_spec).mono ?_; rintro e w1 ⟨g, cap, rfl, k1, ht⟩))
  have hbl := bytesWorld_blk w1 s
  have hW : Same w1 (Lib.bytesWorld w1 5 s) := bytesWorld_same w1 5 s
  have hW' : Same w (Lib.bytesWorld w1 5 s) := k1.trans hW
  have htt : RdAt (Lib.bytesWorld w1 5 s) g 0 (ctab 16) := ht.chg hW (fun h => h)
  generalize Lib.bytesWorld w1 5 s = W at *
  have hlen : (u8s s.data.toList).length = s.size := by unfold u8s; rw [List.length_map]; rfl
  generalize hb0 : w1.heap.size = b0 at *
  clear hb0 hconv ht k1 hW
  go_loopw [4, 11] (fun n k wr => ∃ m : Nat, m ≤ s.size ∧ k = .int .i64 m ∧ n = .int .u32 (crcRun (s.data.toList.take m) : Nat) ∧ W = wr) (fun _ k _ => s.size - (intOf k).toNat)
  case atStart => exact ⟨0, by omega, rfl, rfl, rfl⟩
  case round =>
    obtain ⟨m, hm, rfl, rfl, rfl⟩ := hrel
    have hlt := crcRun_lt (s.data.toList.take m)
    by_cases hml : m < s.size
    · have hml' : m < s.data.toList.length := hml
      have c0 := hbl.cell m (by omega)
      have c1 : (u8s s.data.toList)[m]'(by omega) = .int .u8 (s.data.toList[m]).toNat := by simp [u8s]
      rw [c1] at c0
      clear c1
      have hstep := crcRun_snoc (s.data.toList.take m) s.data.toList[m]
      rw [List.take_append_getElem hml'] at hstep
      have hcb := (s.data.toList[m]).toNat_lt
      have Hst := Lib.hid hstep
      clear hstep
      generalize s.data.toList[m] = c at *
      generalize crcRun (s.data.toList.take m) = n at *
      generalize hn' : crcRun (s.data.toList.take (m + 1)) = n' at *
      have Hn' := Lib.hid hn'
      clear hn'
      have x1 := xo_eq n c.toNat
      have h1 := xo_lt n c.toNat
      have hc1 : crcHalf (xo n c.toNat) = xo (xo n c.toNat / 16) (hs 4 (xo n c.toNat % 16)) := rfl
      have hc2 : crcByte n c = xo (crcHalf (xo n c.toNat) / 16) (hs 4 (crcHalf (xo n c.toNat) % 16)) := rfl
      rw [hc2] at Hst
      have h2 := crcHalf_lt (xo n c.toNat)
      generalize xo n c.toNat = a at *
      have t1 := htt (a % 16) (.int .u32 (hs 4 (a % 16) : Nat)) (ctab_get _ (by omega))
      rw [Nat.zero_add] at t1
      have x2 := xo_eq (a / 16) (hs 4 (a % 16))
      rw [← hc1] at x2
      clear hc1 hc2
      generalize hs 4 (a % 16) = ha at *
      generalize crcHalf a = b at *
      have t2 := htt (b % 16) (.int .u32 (hs 4 (b % 16) : Nat)) (ctab_get _ (by omega))
      rw [Nat.zero_add] at t2
      have x3 := xo_eq (b / 16) (hs 4 (b % 16))
      generalize hs 4 (b % 16) = hb at *
      rw [← Hst.out] at x3
      clear htt
      push_cast at x2 x3
      go_wp2
      go_roundw
      · refine ⟨m + 1, by omega, rfl, ?_, trivial⟩
        rw [Hn'.out]
      · simp only [intOf]; omega
    · go_wp2
      go_ret
      refine ⟨?_, hW'⟩
      rw [List.take_of_length_le (Nat.le_of_not_lt hml : s.data.toList.length ≤ m)]
      have := xo_eq 4294967295 (crcRun s.data.toList)
      exact congrArg (fun x => Ending.returned (Value.int .u32 x)) this

def crcB (s : ByteArray) : List UInt8 := [UInt8.ofNat (crcSum s), UInt8.ofNat (crcSum s / 256), UInt8.ofNat (crcSum s / 65536), UInt8.ofNat (crcSum s / 16777216)]
/-- crc.Put. -/
def crcPut (s : ByteArray) : ByteArray := ⟨(s.data.toList ++ crcB s).toArray⟩

theorem conv4 (a b c d : UInt8) (W : World) : (convert 38 9 (.slice (some ⟨W.heap.size, 0, none⟩) 4 4)).run Tryz.prog (W.alloc (.cells #[.int .u8 a.toNat, .int .u8 b.toNat, .int .u8 c.toNat, .int .u8 d.toNat] 5)) = .ok (.string ⟨#[a, b, c, d]⟩) (W.alloc (.cells #[.int .u8 a.toNat, .int .u8 b.toNat, .int .u8 c.toNat, .int .u8 d.toNat] 5)) := by
  have hb : Blk (W.alloc (.cells #[.int .u8 a.toNat, .int .u8 b.toNat, .int .u8 c.toNat, .int .u8 d.toNat] 5)) W.heap.size 5 (u8s [a, b, c, d]) := Blk.new W 5 _
  have := run_convert_bytes_arg (W.alloc (.cells #[.int .u8 a.toNat, .int .u8 b.toNat, .int .u8 c.toNat, .int .u8 d.toNat] 5)) 38 5 Tryz.underlying38 Tryz.underlying5 W.heap.size 0 4 4 ([a, b, c, d].map fun b => (b.toNat : Int)) (by simp) (fun i hi => by
    rw [Nat.zero_add, hb.cell i]
    match i, hi with
    | 0, _ => rfl
    | 1, _ => rfl
    | 2, _ => rfl
    | 3, _ => rfl
    | _ + 4, hi => omega) 9 Tryz.underlying9
  rw [this]
  simp [strOfNums]

theorem app_mk (s : ByteArray) (l : List UInt8) : s ++ ⟨l.toArray⟩ = ⟨(s.data.toList ++ l).toArray⟩ := by
  apply ByteArray.ext
  rw [ByteArray.data_append]
  simp
set_option maxRecDepth 100000 in
theorem put_spec {w : World} (s : ByteArray) (hs0 : s.size ≤ 1407374883553) : Calls Tryz.prog 89 #[.string s] w fun e w' => e = .returned (.string (crcPut s)) ∧ Same w w' := by
  have hcs := crcSum_lt s
  have hp : crcPut s = ⟨(s.data.toList ++ crcB s).toArray⟩ := rfl
  rw [show crcB s = [UInt8.ofNat (crcSum s), UInt8.ofNat (crcSum s / 256), UInt8.ofNat (crcSum s / 65536), UInt8.ofNat (crcSum s / 16777216)] from rfl] at hp
  generalize crcPut s = out at *
  have hsum := fun W => sum_spec (w := W) s (by omega)
  generalize crcSum s = n at *
  have Hp := Lib.hid hp
  clear hp
  have e0 : ((UInt8.ofNat n).toNat : Int) = (n : Int) % 256 := by simp
  have e1 : ((UInt8.ofNat (n / 256)).toNat : Int) = (n : Int) / 256 % 256 := by simp
  have e2 : ((UInt8.ofNat (n / 65536)).toNat : Int) = (n : Int) / 65536 % 256 := by simp
  have e3 : ((UInt8.ofNat (n / 16777216)).toNat : Int) = (n : Int) / 16777216 := by simp; omega
  have hc := conv4 (UInt8.ofNat n) (UInt8.ofNat (n / 256)) (UInt8.ofNat (n / 65536)) (UInt8.ofNat (n / 16777216))
  rw [e0, e1, e2, e3] at hc
  go_enter Tryz.func89, Tryz.ntmps89
  go_wp2_with (first
    | (go_at_call 117; refine (hsum _).mono ?_; rintro e w1 ⟨rfl, k1⟩))
  go_ret
  refine ⟨?_, k1.alloc _⟩
  rw [Hp.out]
  show Ending.returned (Value.string (s ++ ⟨[_, _, _, _].toArray⟩)) = _
  rw [app_mk]

theorem eqB (a b : ByteArray) : (a.toList == b.toList) = decide (a = b) := by
  rw [ByteArray.toList_eq, ByteArray.toList_eq]
  by_cases h : a = b
  · subst h; simp
  · have : ¬ a.data.toList = b.data.toList := fun e => h (ByteArray.ext (by simpa using e))
    simp [h]
    simpa using this
/-- crc.Get. -/
def crcGet (s : ByteArray) : Option ByteArray := if s.size < 4 then none else if crcPut (s.extract 0 (s.size - 4)) = s then some (s.extract 0 (s.size - 4)) else none
def optPair (o : Option ByteArray) : Ending :=
  match o with
  | some b => .returned (.tuple #[.string b, .bool true])
  | none => .returned (.tuple #[.string ⟨#[]⟩, .bool false])

set_option maxRecDepth 100000 in
theorem get_spec {w : World} (s : ByteArray) (hs0 : s.size ≤ 1407374883553) : Calls Tryz.prog 59 #[.string s] w fun e w' => e = optPair (crcGet s) ∧ Same w w' := by
  by_cases h4 : s.size < 4
  · have hg : crcGet s = none := by rw [crcGet, if_pos h4]
    rw [hg]
    clear hg
    go_enter Tryz.func59, Tryz.ntmps59
    go_wp2
    go_ret2
    exact ⟨rfl, .refl _ _⟩
  · have hg : crcGet s = if crcPut (s.extract 0 (s.size - 4)) = s then some (s.extract 0 (s.size - 4)) else none := by rw [crcGet, if_neg h4]
    have hput := fun W => put_spec (w := W) (s.extract 0 (s.size - 4)) (by rw [ByteArray.size_extract]; omega)
    generalize crcPut (s.extract 0 (s.size - 4)) = p at *
    by_cases hp : p = s
    · rw [hg, if_pos hp]
      clear hg
      subst hp
      go_enter Tryz.func59, Tryz.ntmps59
      go_wp2_with (first
        | (go_at_call 89; refine (hput _).mono ?_; rintro e w1 ⟨rfl, k1⟩))
      go_ret2
      exact ⟨rfl, k1⟩
    · rw [hg, if_neg hp]
      clear hg
      have hpe := eqB p s
      rw [decide_eq_false hp] at hpe
      clear hp
      go_enter Tryz.func59, Tryz.ntmps59
      go_wp2_with (first
        | (go_at_call 89; refine (hput _).mono ?_; rintro e w1 ⟨rfl, k1⟩))
      go_ret2
      exact ⟨rfl, k1⟩
end Go.Proofs.Obj

/- C3 -/
namespace Go.Proofs.Obj
open Go Go.RowKit

/-- A byte of a number. -/
def byteAt (n i : Nat) : UInt8 := UInt8.ofNat (n / 2 ^ (8 * i))
/-- objects.little. -/
def littleL (n k : Nat) : List UInt8 := (List.range k).map (byteAt n)
theorem littleL_length (n k : Nat) : (littleL n k).length = k := by simp [littleL]
theorem littleL_succ (n k : Nat) : littleL n (k + 1) = littleL n k ++ [byteAt n k] := by simp [littleL, List.range_succ]
theorem u8s_length (l : List UInt8) : (u8s l).length = l.length := by simp [u8s]
theorem u8s_append (l m : List UInt8) : u8s (l ++ m) = u8s l ++ u8s m := by simp [u8s]
theorem Tryz.info5 : (Tryz.prog.info? 5).map (fun i => (i.zero, i.size, i.bytes)) = some (some (.int .u8 0), 1, 1) := by kernel_rfl

/-- 'string(b)' of bytes that lie in a block. -/
theorem back_blk {W : World} {g : Nat} {l : List UInt8} (hb : Blk W g 5 (u8s l)) (cap : Nat) : (convert 38 9 (.slice (some ⟨g, 0, none⟩) l.length cap)).run Tryz.prog W = .ok (.string ⟨l.toArray⟩) W := by
  have := run_convert_bytes_arg W 38 5 Tryz.underlying38 Tryz.underlying5 g 0 l.length cap (l.map fun b => (b.toNat : Int)) (by simp) (fun i hi => by
    rw [Nat.zero_add, hb.cell i]
    simp [u8s, hi]) 9 Tryz.underlying9
  rw [this]
  simp [strOfNums, Function.comp_def]

def zero8 (k : Nat) : List Value := List.replicate k (.int .u8 0)

set_option maxRecDepth 100000 in
theorem little_spec {w : World} (n k : Nat) (hn : n < 9223372036854775808) (h1 : 1 ≤ k) (h2 : k ≤ 7) : Calls Tryz.prog 103 #[.int .i64 n, .int .i64 k] w fun e w' => e = .returned (.string ⟨(littleL n k).toArray⟩) ∧ Same w w' := by
  have hmk : ∀ W, (Instr.makeSlice 38 (.int .i64 (k : Int)) (.int .i64 (k : Int))).run Tryz.prog W = .ok (.slice (some ⟨W.heap.size, 0, none⟩) k k) (W.alloc (.cells (zero8 k).toArray 5)) := fun W => make_eq 38 5 (.int .u8 0) 1 Tryz.underlying38 Tryz.info5 rfl k (by omega) (by omega) W
  go_enter Tryz.func103, Tryz.ntmps103
  go_wp2
  have hbn := Blk.new w 5 (zero8 k)
  have hS : Same w (w.alloc (.cells (zero8 k).toArray 5)) := (Chg.refl _ w).alloc _
  generalize w.alloc (.cells (zero8 k).toArray 5) = W at *
  go_loopw [11] (fun c wr => ∃ m : Nat, m ≤ k ∧ c = .int .i64 m ∧ Blk wr w.heap.size 5 (u8s (littleL n m) ++ zero8 (k - m)) ∧ Same w wr) (fun c _ => k - (intOf c).toNat)
  case atStart => exact ⟨0, by omega, rfl, by simpa [littleL, u8s] using hbn, hS⟩
  case round =>
    obtain ⟨m, hm, rfl, hblk, hch⟩ := hrel
    by_cases hlt : m < k
    · have hl : (u8s (littleL n m) ++ zero8 (k - m)).length = k := by simp [u8s, littleL, zero8]; omega
      have c0 := hblk.cell m
      rw [List.getElem?_eq_getElem (by omega)] at c0
      have f0 := hblk.frozen m
      generalize (u8s (littleL n m) ++ zero8 (k - m))[m]'(by omega) = v0 at *
      have hnx := hblk.setCell m (.int .u8 (byteAt n m).toNat)
      have hse : (u8s (littleL n m) ++ zero8 (k - m)).set m (.int .u8 (byteAt n m).toNat) = u8s (littleL n (m + 1)) ++ zero8 (k - (m + 1)) := by
        have e1 : (u8s (littleL n m)).length = m := by simp [u8s, littleL]
        have e2 : k - m = (k - (m + 1)) + 1 := by omega
        rw [List.set_append_right _ _ (by omega), e1, Nat.sub_self, e2, littleL_succ, u8s_append]
        simp [zero8, List.replicate_succ, u8s]
      rw [hse] at hnx
      clear hse
      have hby : ((byteAt n m).toNat : Int) = (n : Int) / 2 ^ (8 * m) % 256 := by simp [byteAt]
      go_wp2
      refine ⟨⟨m + 1, by omega, rfl, ?_, ?_⟩, ?_⟩
      · rw [← hby]; exact hnx
      · exact hch.setCell (fun h => absurd h (Nat.lt_irrefl _)) _
      · simp only [intOf]; omega
    · obtain rfl : m = k := by omega
      have hbk := back_blk (W := wr) (g := w.heap.size) (l := littleL n m) (by simpa [zero8] using hblk) m
      rw [littleL_length] at hbk
      go_wp2
      go_ret
      exact ⟨rfl, hch⟩

theorem many_spec {w : World} (a b : Nat) (ha : a ≤ 4294967296) (h1 : 1 ≤ b) (h2 : b ≤ 4294967296) : Calls Tryz.prog 62 #[.int .i64 a, .int .i64 b] w fun e w' => e = .returned (.int .i64 ((a + b - 1) / b : Nat)) ∧ w = w' := by
  have hb0 : (b : Int) ≠ 0 := by omega
  have e : ((a : Int) + b - 1) = ((a + b - 1 : Nat) : Int) := by omega
  go_enter Tryz.func62, Tryz.ntmps62
  go_wp2
  go_ret
  refine ⟨?_, rfl⟩
  have h1 : (((a + b - 1 : Nat) : Int) / (b : Int)) = (((a + b - 1) / b : Nat) : Int) := by simp
  have h2 : (a + b - 1) / b ≤ a + b - 1 := Nat.div_le_self _ _
  have h3 : wrap64 (((a + b - 1 : Nat) : Int) / (b : Int)) = (((a + b - 1) / b : Nat) : Int) := by rw [h1]; generalize (a + b - 1) / b = q at *; unfold wrap64; omega
  exact congrArg (fun x => Ending.returned (Value.int .i64 x)) h3

/-- Bytes as a string. -/
def S (l : List UInt8) : ByteArray := ⟨l.toArray⟩
theorem S_size (l : List UInt8) : (S l).size = l.length := rfl
theorem S_extract (l : List UInt8) (a b : Nat) : (S l).extract a b = S ((l.take b).drop a) := by
  apply ByteArray.ext
  simp [S, List.drop_take]
theorem S_append (l m : List UInt8) : S l ++ S m = S (l ++ m) := by
  apply ByteArray.ext
  rw [ByteArray.data_append]
  simp [S]

/-- The first so many of bytes, and the rest; none where there are fewer. -/
def tt (l : List UInt8) (n : Nat) : List UInt8 × List UInt8 := if n ≤ l.length then (l.take n, l.drop n) else ([], [])

set_option maxRecDepth 100000 in
theorem text_spec {w : World} {r : Nat} {l : List UInt8} {bad : Bool} (hb : Blk w r 128 [.string (S l), .bool bad]) (n : Nat) (hn : n ≤ 4294967296) (hl : l.length ≤ 4294967296) :
    Calls Tryz.prog 61 #[.pointer (some ⟨r, 0, none⟩), .int .i64 n] w fun e w' => e = .returned (.string (S (tt l n).1)) ∧ Blk w' r 128 [.string (S (tt l n).2), .bool (bad || decide (l.length < n))] ∧ Chg (fun k => k = r) w w' := by
  have c0 := hb.cell 0
  have c1 := hb.cell 1
  have f0 := hb.frozen 0
  have f1 := hb.frozen 1
  simp only [List.getElem?_cons_zero, List.getElem?_cons_succ] at c0 c1
  have hsz := S_size l
  by_cases h : n ≤ l.length
  · have ht : tt l n = (l.take n, l.drop n) := by rw [tt, if_pos h]
    rw [ht]
    clear ht
    have x1 : (S l).extract 0 n = S (l.take n) := by rw [S_extract]; simp
    have x2 : (S l).extract n l.length = S (l.drop n) := by rw [S_extract]; simp
    have hd : decide (l.length < n) = false := by simp; omega
    rw [hd, Bool.or_false]
    have hX := hb.setCell 0 (.string (S (l.drop n)))
    generalize S (l.take n) = p at *
    generalize S (l.drop n) = q at *
    generalize S l = s at *
    go_enter Tryz.func61, Tryz.ntmps61
    go_wp2
    go_ret
    exact ⟨rfl, hX, .set1 _ _ _ _⟩
  · have ht : tt l n = ([], []) := by rw [tt, if_neg h]
    rw [ht]
    clear ht
    have hd : decide (l.length < n) = true := by simp; omega
    rw [hd, Bool.or_true]
    have hX := (hb.setCell 0 (.string (S []))).setCell 1 (.bool true)
    have f2 := (hb.setCell 0 (.string (S []))).frozen 1
    have c2 := (hb.setCell 0 (.string (S []))).cell 1
    generalize S l = s at *
    go_enter Tryz.func61, Tryz.ntmps61
    go_wp2
    go_ret
    exact ⟨rfl, hX, (Chg.set1 w r 0 _).setCell (p := ⟨r, 1, none⟩) (fun _ => rfl) _⟩

/-- The number of bytes, the lowest first. -/
def numL : List UInt8 → Nat
  | [] => 0
  | c :: l => c.toNat + 256 * numL l
theorem numL_lt : ∀ l : List UInt8, numL l < 2 ^ (8 * l.length)
  | [] => by simp [numL]
  | c :: l => by
    have h := numL_lt l
    have hc := c.toNat_lt
    have e : 2 ^ (8 * (c :: l).length) = 256 * 2 ^ (8 * l.length) := by
      rw [List.length_cons, Nat.mul_add, Nat.pow_add, Nat.mul_comm]
    rw [e, numL]
    omega
theorem numL_snoc (l : List UInt8) (c : UInt8) : numL (l ++ [c]) = numL l + c.toNat * 2 ^ (8 * l.length) := by
  induction l with
  | nil => simp [numL]
  | cons a l ih =>
    have e : 2 ^ (8 * (a :: l).length) = 256 * 2 ^ (8 * l.length) := by
      rw [List.length_cons, Nat.mul_add, Nat.pow_add, Nat.mul_comm]
    rw [List.cons_append, numL, ih, numL, e]
    have : c.toNat * (256 * 2 ^ (8 * l.length)) = 256 * (c.toNat * 2 ^ (8 * l.length)) := by
      rw [← Nat.mul_assoc, Nat.mul_comm c.toNat 256, Nat.mul_assoc]
    omega
theorem numL_little (n k : Nat) : numL (littleL n k) = n % 2 ^ (8 * k) := by
  induction k with
  | zero => simp [littleL, numL, Nat.mod_one]
  | succ k ih =>
    have hb : (byteAt n k).toNat = n / 2 ^ (8 * k) % 256 := by simp [byteAt]
    rw [littleL_succ, numL_snoc, ih, littleL_length, hb, Nat.mul_add, Nat.pow_add, Nat.mod_mul, Nat.mul_comm (n / 2 ^ (8 * k) % 256)]

/-- Or of a low number and a high one. -/
theorem or_add (x c m : Nat) (hx : x < 2 ^ (8 * m)) (hm : m ≤ 6) (hc : c < 256) : bits BinOp.or IntKind.i64 (x : Int) ((c : Int) * 2 ^ (8 * m)) = ((x + c * 2 ^ (8 * m) : Nat) : Int) := by
  have h1 : 2 ^ (8 * m) ≤ 2 ^ 48 := Nat.pow_le_pow_right (by omega) (by omega)
  have h2 : c * 2 ^ (8 * m) ≤ 255 * 2 ^ 48 := Nat.mul_le_mul (by omega) h1
  have h3 : x + c * 2 ^ (8 * m) = x ||| c * 2 ^ (8 * m) := by
    have := Nat.shiftLeft_add_eq_or_of_lt hx c
    rw [Nat.shiftLeft_eq] at this
    rw [Nat.add_comm, this, Nat.or_comm]
  have e1 : BitVec.ofInt 64 (x : Int) = BitVec.ofNat 64 x := by apply BitVec.eq_of_toNat_eq; simp
  have e2 : BitVec.ofInt 64 ((c : Int) * 2 ^ (8 * m)) = BitVec.ofNat 64 (c * 2 ^ (8 * m)) := by
    have : ((c : Int) * 2 ^ (8 * m)) = ((c * 2 ^ (8 * m) : Nat) : Int) := by push_cast; rfl
    rw [this]
    generalize c * 2 ^ (8 * m) = y
    apply BitVec.eq_of_toNat_eq; simp
  change IntKind.i64.wrap (((BitVec.ofInt 64 (x : Int)) ||| (BitVec.ofInt 64 ((c : Int) * 2 ^ (8 * m)))).toNat : Int) = _
  rw [e1, e2, BitVec.toNat_or, BitVec.toNat_ofNat, BitVec.toNat_ofNat, Nat.mod_eq_of_lt (by omega), Nat.mod_eq_of_lt (by omega), ← h3, IntKind.wrap_i64]
  omega

set_option maxRecDepth 100000 in
theorem num_spec {w : World} {r : Nat} {l : List UInt8} {bad : Bool} (hb : Blk w r 128 [.string (S l), .bool bad]) (n : Nat) (hn : n ≤ 6) (hl : l.length ≤ 4294967296) :
    Calls Tryz.prog 60 #[.pointer (some ⟨r, 0, none⟩), .int .i64 n] w fun e w' => e = .returned (.int .i64 (numL (tt l n).1 : Nat)) ∧ Blk w' r 128 [.string (S (tt l n).2), .bool (bad || decide (l.length < n))] ∧ Chg (fun k => k = r) w w' := by
  have htx := text_spec hb n (by omega) hl
  have h6 : (tt l n).1.length ≤ 6 := by
    unfold tt
    split
    · simp; omega
    · simp
  generalize (tt l n).1 = t at *
  generalize (tt l n).2 = q at *
  generalize (bad || decide (l.length < n)) = bad' at *
  go_enter Tryz.func60, Tryz.ntmps60
  have hconv := fun W => Lib.run_convert_string_bytes (P := Tryz.prog) W 9 38 5 (S t) Tryz.underlying9 Tryz.underlying38 Tryz.underlying5
  go_wp2_with (first
    | (go_at_call 61; refine htx.mono ?_; rintro e w1 ⟨rfl, hb1, k1⟩))
  have hbl := bytesWorld_blk w1 (S t)
  have hW : Same w1 (Lib.bytesWorld w1 5 (S t)) := bytesWorld_same w1 5 _
  have hbW := hb1.same hW
  have hkW := k1.then_same hW
  generalize Lib.bytesWorld w1 5 (S t) = W at *
  have hst : (S t).size = t.length := rfl
  have hsd : (S t).data.toList = t := rfl
  rw [hsd] at hbl
  generalize S t = s at *
  generalize w1.heap.size = b0 at *
  go_loopw [5, 13] (fun x k wr => ∃ m : Nat, m ≤ t.length ∧ k = .int .i64 m ∧ x = .int .i64 (numL (t.take m) : Nat) ∧ W = wr) (fun _ k _ => t.length - (intOf k).toNat)
  case atStart => exact ⟨0, by omega, rfl, rfl, rfl⟩
  case round =>
    obtain ⟨m, hm, rfl, rfl, rfl⟩ := hrel
    have hlt := numL_lt (t.take m)
    rw [List.length_take_of_le hm] at hlt
    by_cases hml : m < t.length
    · have c0 := hbl.cell m (by rw [u8s_length]; omega)
      have c1 : (u8s t)[m]'(by rw [u8s_length]; omega) = .int .u8 (t[m]).toNat := by simp [u8s]
      rw [c1] at c0
      clear c1
      have hsn := numL_snoc (t.take m) t[m]
      rw [List.take_append_getElem hml, List.length_take_of_le hm] at hsn
      have hcb := (t[m]).toNat_lt
      have hor := or_add (numL (t.take m)) (t[m]).toNat m hlt (by omega) (by omega)
      rw [← hsn] at hor
      have hw : wrap64 (((t[m]).toNat : Int) * 2 ^ (8 * m)) = ((t[m]).toNat : Int) * 2 ^ (8 * m) := by
        have h1 : 2 ^ (8 * m) ≤ 2 ^ 48 := Nat.pow_le_pow_right (by omega) (by omega)
        have h2 : (t[m]).toNat * 2 ^ (8 * m) ≤ 255 * 2 ^ 48 := Nat.mul_le_mul (by omega) h1
        have h3 : (((t[m]).toNat : Int) * 2 ^ (8 * m)) = (((t[m]).toNat * 2 ^ (8 * m) : Nat) : Int) := by push_cast; rfl
        rw [h3]
        generalize (t[m]).toNat * 2 ^ (8 * m) = y at *
        unfold wrap64
        omega
      have Hsn := Lib.hid hsn
      clear hsn
      generalize t[m] = c at *
      generalize numL (t.take m) = x at *
      go_wp2
      refine ⟨⟨m + 1, by omega, rfl, rfl, trivial⟩, ?_⟩
      simp only [intOf]; omega
    · go_wp2
      go_ret
      rw [List.take_of_length_le (by omega)]
      exact ⟨rfl, hbW, hkW⟩
end Go.Proofs.Obj
