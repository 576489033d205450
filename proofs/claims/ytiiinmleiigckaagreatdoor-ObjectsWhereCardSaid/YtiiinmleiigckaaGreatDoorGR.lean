/- What is proved here: contracts of a store that is read. No condition but what each theorem says. -/
import Derived.Test.YtiiinmleiigckaaGreatDoorGQ
import Derived.Lib.FrozenHead
set_option linter.unusedVariables false
set_option linter.unusedSimpArgs false

/- U1 -/
namespace Go.Proofs.Obj
open Go Go.RowKit

/-- A builder with these bytes. -/
def Bld (w : World) (b : Nat) (l : List UInt8) : Prop := Lib.IsBuilderF 104 5 b b (Lib.byteCells l) w
/-- What a builder may write. -/
def BS (w : World) (b : Nat) (k : Nat) : Prop := b ≤ k ∧ (k = b ∨ ∃ c fz, w.heap[k]? = some (.cells c 5 fz))

theorem chg_others {w w' : World} {b : Nat} (hb : Below b w w') (ho : Lib.OthersKept 5 (some b) w w') : Chg (BS w b) w w' := by
  refine ⟨hb.os, hb.tape, hb.output, hb.size, fun k hk hn => ?_⟩
  by_cases h1 : k < b
  · exact hb.block k h1
  · have hkk : w.heap[k]? = some w.heap[k] := Array.getElem?_eq_getElem hk
    rw [hkk]
    refine ho k _ hkk (fun e => hn ⟨by omega, .inl (by simpa using e)⟩) (fun c fz e => hn ⟨by omega, .inr ⟨c, fz, by rw [hkk, e]⟩⟩)

theorem BS.not {w : World} {b k : Nat} {t : TypeId} {c : List Value} (h : Blk w k t c) (h5 : t ≠ 5) (hb : k ≠ b) : ¬ BS w b k := by
  rintro ⟨_, h1 | ⟨c', fz, h1⟩⟩
  · exact hb h1
  · have := h.at_.symm.trans h1
    simp only [Option.some.injEq, Obj.cells.injEq] at this
    exact h5 this.2.1
theorem BS.not_low {w : World} {b k : Nat} (h : k < b) : ¬ BS w b k := fun e => by have := e.1; omega

theorem Bld.chg {w w' : World} {b : Nat} {l : List UInt8} (h : Bld w b l) {S : Nat → Prop} (k : Chg S w w') (hb : ¬ S b) (h5 : ∀ j c fz, w.heap[j]? = some (.cells c 5 fz) → ¬ S j) : Bld w' b l := by
  have one : ∀ p, Lib.BuilderAtF 104 5 b b p (Lib.byteCells l) w → Lib.BuilderAtF 104 5 b b p (Lib.byteCells l) w' := by
    rintro p ⟨hB, v, hbk, hown, hne⟩
    refine ⟨hB, v, k.at_ hbk hb, ⟨hown.1, ?_⟩, hne⟩
    rcases hown.2 with h2 | ⟨g, cap, cur, fz, hv, hbb, hh, r⟩
    · exact .inl h2
    · exact .inr ⟨g, cap, cur, fz, hv, hbb, k.at_ hh (h5 _ _ _ hh), r⟩
  rcases h with h | h
  · exact .inl (one _ h)
  · exact .inr (one _ h)
theorem Bld.same {w w' : World} {b : Nat} {l : List UInt8} (h : Bld w b l) (k : Same w w') : Bld w' b l := h.chg k (fun h => h) (fun _ _ _ _ h => h)
theorem Bld.lt {w : World} {b : Nat} {l : List UInt8} (h : Bld w b l) : b < w.heap.size := by
  rcases h with ⟨_, v, hb, _⟩ | ⟨_, v, hb, _⟩ <;> exact lt_of_at hb
theorem Bld.ne {w : World} {b k : Nat} {l : List UInt8} (h : Bld w b l) {t : TypeId} {c : List Value} (hk : Blk w k t c) (ht : t ≠ 104) : k ≠ b := by
  rintro rfl
  rcases h with ⟨_, v, hb, _⟩ | ⟨_, v, hb, _⟩ <;>
  · have := hk.at_.symm.trans hb
    simp only [Option.some.injEq, Obj.cells.injEq] at this
    exact ht this.2.1
theorem Bld.new (w : World) : Bld (w.alloc (.cells #[.pointer none, .slice none 0 0] 104)) w.heap.size [] :=
  .inl ⟨Nat.le_refl _, .slice none 0 0, heap_alloc_new w _, ⟨rfl, .inl ⟨rfl, rfl⟩⟩, by simp [Value.ownBlock]⟩

theorem bldLen_spec {w : World} {b : Nat} {l : List UInt8} (h : Bld w b l) : Calls Tryz.prog 58 #[.pointer (some ⟨b, 0, none⟩)] w fun e w' => e = .returned (.int .i64 l.length) ∧ w = w' := by
  refine (Tryz.Builder_Len_f b b _ w h).mono ?_
  rintro e w' ⟨rfl, rfl⟩
  exact ⟨by simp [Lib.byteCells], rfl⟩
theorem bldWrite_spec {w : World} {b : Nat} {l : List UInt8} (h : Bld w b l) (s : List UInt8) (hl : l.length + s.length ≤ 140737488355328) :
    Calls Tryz.prog 49 #[.pointer (some ⟨b, 0, none⟩), .string (S s)] w fun e w' => e = .returned (.tuple #[.int .i64 s.length, .nilIface]) ∧ Bld w' b (l ++ s) ∧ Chg (BS w b) w w' := by
  refine (Tryz.Builder_WriteString_k b b _ (S s) w h (by simpa [Lib.byteCells, S_size] using hl) (Nat.le_of_lt h.lt)).mono ?_
  rintro e w' ⟨rfl, h1, h2, h3⟩
  refine ⟨by rw [S_size], .inr ?_, chg_others h2 h3⟩
  have e : Lib.byteCells (l ++ s) = Lib.byteCells l ++ Lib.strCells (S s) := by simp [Lib.byteCells, Lib.strCells, S]
  rw [e]
  exact h1
theorem bldString_spec {w : World} {b : Nat} {l : List UInt8} (h : Bld w b l) :
    Calls Tryz.prog 50 #[.pointer (some ⟨b, 0, none⟩)] w fun e w' => e = .returned (.string (S l)) ∧ Bld w' b l ∧ Chg (BS w b) w w' := by
  refine (Tryz.Builder_String_any_k b b l w h (Nat.le_of_lt h.lt)).mono ?_
  rintro e w' ⟨rfl, h1, h2, h3⟩
  exact ⟨rfl, h1, chg_others h2 h3⟩
end Go.Proofs.Obj

/- S3 -/
namespace Go.Proofs.Obj
open Go Go.RowKit

theorem crcPut_size (s : ByteArray) : (crcPut s).size = s.size + 4 := by
  show (S (s.data.toList ++ crcB s)).size = _
  rw [S_size, List.length_append]
  rfl
theorem crcGet_put (s : ByteArray) : crcGet (crcPut s) = some s := by
  have he : (crcPut s).extract 0 ((crcPut s).size - 4) = s := by
    rw [crcPut_size]
    show (S (s.data.toList ++ crcB s)).extract 0 (s.size + 4 - 4) = s
    rw [S_extract]
    have : s.size + 4 - 4 = s.data.toList.length := Nat.add_sub_cancel _ _
    rw [this, List.take_left, List.drop_zero]
    rfl
  unfold crcGet
  rw [if_neg (by rw [crcPut_size]; omega), he, if_pos rfl]
theorem crcGet_sealed (l : List UInt8) : crcGet (sealedL l) = some (S (l ++ zeros (60 - l.length))) := crcGet_put _
theorem sealedL_size (l : List UInt8) (h : l.length ≤ 60) : (sealedL l).size = 64 := by
  rw [sealedL, crcPut_size, S_size, List.length_append]
  rw [zeros, List.length_replicate]; omega

/-- A row of sectors that tells bytes, from its first sector on. -/
def ChainAt (rd : Nat → ByteArray) (n : Nat) : List Nat → List UInt8 → Prop
  | [], R => R = []
  | a :: r, R => R ≠ [] ∧ 2 ≤ a ∧ a < n ∧ rd a = sealedL (littleL (r.headD 0) 2 ++ R.take 58) ∧ ChainAt rd n r (R.drop 58)

theorem BS.not_own {w : World} {b : Nat} {l : List UInt8} (hb : Bld w b l) {base : Nat} {e : TypeId} {size n : Nat} {v : Value} {xs : List Value} (h : w.ownsRow base e size v n xs) {k : Nat} (hv : v.ownBlock = some k) (h5 : e ≠ 5) (h4 : e ≠ 104) : ¬ BS w b k := by
  obtain ⟨c, hc⟩ := own_type h hv
  have hk : Blk w k e c.toList := hc
  exact BS.not hk h5 (hb.ne hk h4)
def sliceLen (w : World) (a : Addr) : Nat :=
  match w.cell? a with
  | some (.slice _ n _) => n
  | _ => 0

theorem tt_link (x : Nat) (c : List UInt8) (hx : x < 65536) : numL (tt (littleL x 2 ++ c) 2).1 = x ∧ (tt (littleL x 2 ++ c) 2).2 = c := by
  have hl := littleL_length x 2
  unfold tt
  rw [if_pos (by rw [List.length_append, hl]; omega)]
  constructor
  · dsimp only
    rw [List.take_left' hl, numL_little]
    exact Nat.mod_eq_of_lt (by simpa using hx)
  · dsimp only
    rw [List.drop_left' hl]

set_option maxRecDepth 100000 in
set_option maxHeartbeats 1000000 in
theorem row_up {w : World} {s mb : Nat} {turn : Int} {down : Bool} {L : DL} {D : Dk} (hs : SB w s L.d mb turn (.slice none 0 0) down) (hD : DiskAt w L D) (hl : D.loose.length ≤ 65536) (hup : D.down = false)
    {idx : List Nat} {R : List UInt8} (hc : ChainAt D.sector D.firm.length idx R) (hR : R.length ≤ 1048576) (hi : idx.length ≤ D.firm.length) (tt_ : Nat) :
    Calls Tryz.prog 33 #[.pointer (some ⟨s, 0, none⟩), topV tt_ (idx.headD 0) R.length] w fun e w' => e = .returned (.tuple #[.string (S R), .int .i64 0]) ∧ Chg (fun k => k = s) w w' ∧ ∃ iv, SB w' s L.d mb turn iv down ∧ w'.ownsRow w.heap.size 3 1 iv idx.length (natInts idx) := by
  have hlen := hD.len
  unfold topV
  generalize hat0 : idx.headD 0 = at0
  have Hat := Lib.hid hat0
  clear hat0
  have hb3 := Blk.new w 75 [.int .i64 tt_, .int .i64 at0, .int .i64 R.length]
  have hS3 : Same w (w.alloc (.cells [.int .i64 tt_, .int .i64 at0, .int .i64 R.length].toArray 75)) := (Chg.refl _ w).alloc _
  go_enter Tryz.func33, Tryz.ntmps33
  go_wp2
  have hs1 : SB ((w.alloc (Obj.cells #[.int .i64 tt_, .int .i64 at0, .int .i64 R.length] 75)).alloc (Obj.cells #[Value.pointer none, Value.slice none 0 0] 104)) s L.d mb turn (.slice none 0 0) down := Blk.same hs ((Chg.refl _ w).alloc _ |>.alloc _)
  have hS1 : Same w ((w.alloc (Obj.cells #[.int .i64 tt_, .int .i64 at0, .int .i64 R.length] 75)).alloc (Obj.cells #[Value.pointer none, Value.slice none 0 0] 104)) := (Chg.refl _ w).alloc _ |>.alloc _
  have hb31 : Blk ((w.alloc (Obj.cells #[.int .i64 tt_, .int .i64 at0, .int .i64 R.length] 75)).alloc (Obj.cells #[Value.pointer none, Value.slice none 0 0] 104)) w.heap.size 75 [.int .i64 tt_, .int .i64 at0, .int .i64 R.length] := hb3.alloc _
  have hbd : Bld ((w.alloc (Obj.cells #[.int .i64 tt_, .int .i64 at0, .int .i64 R.length] 75)).alloc (Obj.cells #[Value.pointer none, Value.slice none 0 0] 104)) (w.heap.size + 1) [] := by
    have := Bld.new (w.alloc (Obj.cells #[.int .i64 tt_, .int .i64 at0, .int .i64 R.length] 75))
    rwa [World.size_alloc] at this
  generalize ((w.alloc (Obj.cells #[.int .i64 tt_, .int .i64 at0, .int .i64 R.length] 75)).alloc (Obj.cells #[Value.pointer none, Value.slice none 0 0] 104)) = W at *
  go_loopw [7] (fun a wr => ∃ (pre post : List Nat) (R' Wb : List UInt8) (z : Nat) (iv : Value), idx = pre ++ post ∧ ChainAt D.sector D.firm.length post R' ∧ a = .int .i64 (post.headD 0 : Nat) ∧ Bld wr (w.heap.size + 1) Wb ∧ Wb ++ R' = R ++ zeros z ∧ (z = 0 ∨ R' = []) ∧ z ≤ 58 ∧
      SB wr s L.d mb turn iv down ∧ wr.ownsRow w.heap.size 3 1 iv pre.length (natInts pre) ∧ Blk wr w.heap.size 75 [.int .i64 tt_, .int .i64 at0, .int .i64 R.length] ∧ Chg (fun k => k = s) w wr) (fun _ wr => idx.length - sliceLen wr ⟨s, 3, none⟩)
  case atStart =>
    refine ⟨[], idx, R, [], 0, _, rfl, hc, by rw [Hat.out], hbd, by simp [zeros], .inl rfl, by omega, hs1, ownsRow_nil' _ _ _ _, hb31, Chg.of_same hS1⟩
  case round =>
    obtain ⟨pre, post, R', Wb, z, iv, hx, hch, rfl, hbd, hWR, hz, hz58, hsb, hrow, hb3r, hk⟩ := hrel
    have hDr := hD.chg hk (fun b hb e => hD.ne_of hs (by decide) (by decide) (by decide) (e ▸ hb))
    have d2 := hb3r.cell 2
    simp only [List.getElem?_cons_zero, List.getElem?_cons_succ] at d2
    have hq : ∀ n, Calls Tryz.prog 58 #[.pointer (some ⟨w.heap.size + 1, 0, none⟩)] (wr.drewN n) fun e w' => e = .returned (.int .i64 Wb.length) ∧ w' = wr.drewN n := fun n => (bldLen_spec (w := wr.drewN n) hbd).mono (fun e w' h => ⟨h.1, h.2.symm⟩)
    have hWl := congrArg List.length hWR
    rw [List.length_append, List.length_append] at hWl
    have hzl : (zeros z).length = z := by simp [zeros]
    cases post with
    | nil =>
      obtain rfl : R' = [] := hch
      rw [List.append_nil] at hWR
      subst hWR
      have hcmp : decide (((R ++ zeros z).length : Int) < (R.length : Int)) = false := by simp; omega
      have hst := bldString_spec hbd
      have hex : (S (R ++ zeros z)).extract 0 R.length = S R := by rw [S_extract, List.drop_zero, List.take_left]
      have hszz : (S (R ++ zeros z)).size = R.length + z := by rw [S_size, List.length_append, hzl]
      go_wp2
      go_big_quiet (first | (go_at_call 58; refine Calls.quiet_of_same (hq _)))
      go_wp2
      have hst2 : ∀ n, Calls Tryz.prog 50 #[.pointer (some ⟨w.heap.size + 1, 0, none⟩)] (wr.drewN n) fun e w' => e = .returned (.string (S (R ++ zeros z))) ∧ Chg (BS wr (w.heap.size + 1)) wr w' := fun n => (bldString_spec (w := wr.drewN n) hbd).mono (fun e w' h => ⟨h.1, ⟨h.2.2.os, h.2.2.tape, h.2.2.output, h.2.2.size, h.2.2.block⟩⟩)
      go_region_held3 (fun w' => w'.cell? ⟨w.heap.size, 2, none⟩ = some (.int .i64 R.length)) (first | exact d2 | exact cell_chg (by assumption) d2 (BS.not_low (by simp)))
        (first | (go_at_call 50; refine (hst2 (_ + 1)).mono ?_; rintro e w1 ⟨rfl, k1⟩))
      go_wp2
      go_ret2
      obtain rfl : idx = pre := by rw [hx, List.append_nil]
      refine ⟨rfl, hk.trans' k1 (fun _ _ h => h) (fun j hj e => absurd e.1 (by omega)), iv, hsb.chg k1 (BS.not hsb (by decide) (hbd.ne hsb (by decide))), own_chg hrow k1 (fun b hb => BS.not_own hbd hrow hb (by decide) (by decide))⟩
    | cons a r =>
      obtain ⟨hR0, ha2, han, hsec, hch'⟩ := hch
      have hz0 : z = 0 := hz.resolve_right hR0
      subst hz0
      have hRp : 0 < R'.length := by cases R' with
        | nil => exact absurd rfl hR0
        | cons => simp
      have hcmp : decide ((Wb.length : Int) < (R.length : Int)) = true := by simp; omega
      have hd1 : decide (((a : Nat) : Int) < 2) = false := by simp; omega
      have hd2 : decide (D.firm.length ≤ a) = false := by simp; omega
      have hpl : pre.length < idx.length := by rw [hx]; simp
      have hd3 : decide (D.firm.length ≤ pre.length) = false := by simp; omega
      obtain ⟨A, cap, rfl⟩ : ∃ A cap, iv = .slice A pre.length cap := by
        rcases hrow.2 with ⟨h, h0⟩ | ⟨g, cap, cur, h, _⟩
        · exact ⟨none, 0, by rw [h, h0]⟩
        · exact ⟨_, cap, h⟩
      have hcw := hsb.cell 3
      simp only [List.getElem?_cons_zero, List.getElem?_cons_succ] at hcw
      go_wp2
      go_big_quiet (first | (go_at_call 58; refine Calls.quiet_of_same (hq _)))
      go_wp2
      have hVV : Same wr (wr.drewN nq) := (Chg.refl _ _).drewN nq
      have hsbV : SB (wr.drewN nq) s L.d mb turn (.slice A pre.length cap) down := Blk.same hsb hVV
      have hrowV := own_chg hrow hVV (fun _ _ h => h)
      have hDV := hDr.same hVV
      have hbdV := hbd.same hVV
      have hb3V := hb3r.same hVV
      have hkV := hk.then_same hVV
      clear hsb hrow hDr hbd hb3r hk hq d2 hVV
      generalize wr.drewN nq = V at *
      have c0 := hsbV.cell 0
      have c3 := hsbV.cell 3
      simp only [List.getElem?_cons_zero, List.getElem?_cons_succ] at c0 c3
      have hq42 : ∀ n, Calls Tryz.prog 42 #[.pointer (some ⟨L.d, 0, none⟩)] (V.drewN n) fun e w' => e = .returned (.int .i64 D.firm.length) ∧ w' = V.drewN n := fun n => (len_spec (w := V.drewN n) (hDV.same ((Chg.refl _ _).drewN n))).mono (fun e w' h => ⟨h.1, h.2.symm⟩)
      go_big_quiet (first | (go_at_call 42; refine Calls.quiet_of_same (hq42 _)))
      have hVU : Same V (V.drewN nq) := (Chg.refl _ _).drewN nq
      have hsbU : SB (V.drewN nq) s L.d mb turn (.slice A pre.length cap) down := Blk.same hsbV hVU
      have hrowU := own_chg hrowV hVU (fun _ _ h => h)
      have hDU := hDV.same hVU
      have hbdU := hbdV.same hVU
      have hb3U := hb3V.same hVU
      have hkU := hkV.then_same hVU
      clear hsbV hrowV hDV hbdV hb3V hkV hq42 hVU c0 c3
      generalize V.drewN nq = U at *
      have hrd := fun (s' : World) (k : Same U s') => sread_up (Blk.same hsbU k) (hDU.same k) hl hup (a : Int)
      have hread : D.read (a : Int) = (D.sector a, 0) := by
        have hh : hasB D.firm.length (a : Int) = true := by simp [hasB]; omega
        unfold Dk.read
        rw [hup, hh]
        simp
      rw [hread, hsec] at hrd
      have hlink : (littleL (r.headD 0) 2 ++ R'.take 58).length ≤ 60 := by rw [List.length_append, littleL_length, List.length_take]; omega
      have hget := fun W => get_spec (w := W) (sealedL (littleL (r.headD 0) 2 ++ R'.take 58)) (by rw [sealedL_size _ hlink]; omega)
      rw [crcGet_sealed, List.append_assoc] at hget
      have hnx : r.headD 0 < 65536 := by
        cases r with
        | nil => simp
        | cons a' r' => have := hch'.2.2.1; simp; omega
      have hlk := tt_link (r.headD 0) (R'.take 58 ++ zeros (60 - (littleL (r.headD 0) 2 ++ R'.take 58).length)) hnx
      have hnum := fun W rb (hb : Blk W rb 128 [.string (S (littleL (r.headD 0) 2 ++ (R'.take 58 ++ zeros (60 - (littleL (r.headD 0) 2 ++ R'.take 58).length)))), .bool false]) => num_spec hb 2 (by omega) (by rw [List.length_append, littleL_length, List.length_append]; simp [zeros]; omega)
      rw [hlk.1, hlk.2] at hnum
      have hpad : 60 - (littleL (r.headD 0) 2 ++ R'.take 58).length = 58 - (R'.take 58).length := by rw [List.length_append, littleL_length]; omega
      rw [hpad] at hnum hget
      have hwlen : (R'.take 58 ++ zeros (58 - (R'.take 58).length)).length = 58 := by rw [List.length_append, List.length_take]; simp [zeros]; omega
      generalize sealedL (littleL (r.headD 0) 2 ++ R'.take 58) = sec at *
      generalize hchunk : R'.take 58 ++ zeros (58 - (R'.take 58).length) = chunk at *
      have Hchunk := Lib.hid hchunk
      generalize hbody : littleL (r.headD 0) 2 ++ chunk = body at *
      generalize hnxx : r.headD 0 = nx at *
      have Hnx := Lib.hid hnxx
      clear hnxx
      unfold optPair at hget
      simp only [] at hget
      clear hbody hchunk hlk hpad hlink hsec hread
      have hc0 := hsbU.cell 0
      simp only [List.getElem?_cons_zero] at hc0
      have hrd' := hrd U (.refl _ _)
      have hwU := hkU.size
      go_wp2_with (first
        | (go_at_call 48; refine hrd'.mono ?_; rintro e W1 ⟨rfl, k1⟩)
        | (go_at_call 59; refine (hget _).mono ?_; rintro e W2 ⟨rfl, k2⟩; have kU2 := k1.trans k2; have hsb2 : SB W2 s L.d mb turn (.slice A pre.length cap) down := Blk.same hsbU kU2; have hrow2 := own_chg hrowU kU2 (fun _ _ h => h); have c3 := hsb2.cell 3; simp only [List.getElem?_cons_zero, List.getElem?_cons_succ] at c3)
        | (at_builtin; refine app_own rfl (.tmp 63) (.tmp 65) 56 3 _ 1 8 rfl Tryz.underlying56 Tryz.info3 rfl (by decide) (by decide) w.heap.size (.slice A pre.length cap) pre.length (natInts pre) [.int .i64 (a : Nat)] rfl rfl rfl ?c1 hrow2 ?c2 ?c3 ?c4))
      case c1 => intro u hu; simp at hu; subst hu; rfl
      case c2 => have := kU2.size; omega
      case c3 => omega
      case c4 =>
        intro g cap3 W3 hrow3 k3 hg3
        have e5 : natInts pre ++ [Value.int .i64 (a : Nat)] = natInts (pre ++ [a]) := by simp [natInts]
        rw [e5] at hrow3
        have hbd2 := hbdU.same kU2
        have hb32 := hb3U.same kU2
        have hk2 := hkU.then_same kU2
        have hsb3 : SB W3 s L.d mb turn (.slice A pre.length cap) down := Blk.chg hsb2 k3 (own_ne hrow2 hsb2 (by decide))
        have hb33 := hb32.chg k3 (own_ne hrow2 hb32 (by decide))
        have hbd3 : Bld W3 (w.heap.size + 1) Wb := hbd2.chg k3 (fun e => by
          obtain ⟨c, hc⟩ := own_type hrow2 e
          exact absurd rfl (hbd2.ne (t := 3) (c := c.toList) hc (by decide))) (fun j c fz hj e => by
          obtain ⟨c', hc⟩ := own_type hrow2 e
          have := hj.symm.trans hc
          simp at this)
        have hk3 : Chg (fun k => k = s) w W3 := hk2.trans' k3 (fun _ _ h => h) (fun j hj e => by have := own_base hrow2 e; omega)
        have c3' := hsb3.cell 3
        have f3' := hsb3.frozen 3
        simp only [List.getElem?_cons_zero, List.getElem?_cons_succ] at c3'
        have hsb4 : SB (W3.setCell ⟨s, 3, none⟩ (.slice (some ⟨g, 0, none⟩) (pre.length + 1) cap3)) s L.d mb turn (.slice (some ⟨g, 0, none⟩) (pre.length + 1) cap3) down := hsb3.setCell 3 _
        have k34 : Chg (fun k => k = s) W3 (W3.setCell ⟨s, 3, none⟩ (.slice (some ⟨g, 0, none⟩) (pre.length + 1) cap3)) := Chg.set1 _ _ _ _
        have hrow4 := own_chg hrow3 k34 (fun b hb e => own_ne hrow3 hsb3 (by decide) (e ▸ hb))
        have hb34 := hb33.chg k34 (fun e => by have := hb33.type_ne hsb3 (by decide); exact this e)
        have hbd4 := hbd3.chg k34 (fun e => hbd3.ne hsb3 (by decide) e.symm) (fun j c fz hj e => by
          subst e
          have := hsb3.at_.symm.trans hj
          simp at this)
        have hk4 : Chg (fun k => k = s) w (W3.setCell ⟨s, 3, none⟩ (.slice (some ⟨g, 0, none⟩) (pre.length + 1) cap3)) := hk3.trans k34
        have hszW : (W3.setCell ⟨s, 3, none⟩ (.slice (some ⟨g, 0, none⟩) (pre.length + 1) cap3)).heap.size = W3.heap.size := by simp
        have hrb : Blk ((W3.setCell ⟨s, 3, none⟩ (.slice (some ⟨g, 0, none⟩) (pre.length + 1) cap3)).alloc (.cells #[.string (S body), .bool false] 128)) W3.heap.size 128 [.string (S body), .bool false] := by
          have := Blk.new (W3.setCell ⟨s, 3, none⟩ (.slice (some ⟨g, 0, none⟩) (pre.length + 1) cap3)) 128 [.string (S body), .bool false]
          rwa [hszW] at this
        have hnum4 := hnum _ _ hrb
        have hbdA := hbd4.same ((Chg.refl (fun _ => False) _).alloc (.cells #[.string (S body), .bool false] 128))
        have hne5 : ¬ w.heap.size + 1 = W3.heap.size := by have := hbd4.lt; omega
        have h5n : ∀ (j : Nat) c fz, ((W3.setCell ⟨s, 3, none⟩ (.slice (some ⟨g, 0, none⟩) (pre.length + 1) cap3)).alloc (.cells #[.string (S body), .bool false] 128)).heap[j]? = some (.cells c 5 fz) → ¬ j = W3.heap.size := fun j c fz hj e => by
          subst e
          have := hrb.at_.symm.trans hj
          simp at this
        clear hnum
        have hs34 := k34.size
        have hs23 := k3.size
        clear hsb2 hrow2 hsb3 hrow3 hb33 hbd3 hb32 hbd2 k34 hk3 hk2 c3 hrd'
        go_wp2_with (first
          | (go_at_call 60; refine hnum4.mono ?_; rintro e W5 ⟨rfl, hr5, k5⟩; have e0 := hr5.cell 0; simp only [List.getElem?_cons_zero] at e0; have hbd5 := hbdA.chg k5 hne5 h5n)
          | (go_at_call 49; refine (bldWrite_spec hbd5 chunk (by rw [hwlen]; omega)).mono ?_; rintro e W6 ⟨rfl, hbd6, k6⟩))
        have hsb5 := Blk.chg (Blk.alloc hsb4 (.cells #[.string (S body), .bool false] 128)) k5 (by have := Blk.lt hsb4; omega)
        have hsb6 := Blk.chg hsb5 k6 (BS.not hsb5 (by decide) (hbd5.ne hsb5 (by decide)))
        have hrowA := own_chg hrow4 ((Chg.refl (fun _ => False) _).alloc (.cells #[.string (S body), .bool false] 128)) (fun _ _ h => h)
        have hrow5 := own_chg hrowA k5 (fun b hb e => own_ne hrowA hrb (by decide) (e ▸ hb))
        have hrow6 := own_chg hrow5 k6 (fun b hb => BS.not_own hbd5 hrow5 hb (by decide) (by decide))
        have hb35 := (hb34.alloc (.cells #[.string (S body), .bool false] 128)).chg k5 (by have := hb34.lt; omega)
        have hb36 := hb35.chg k6 (BS.not_low (by omega))
        have hk6 : Chg (fun k => k = s) w W6 := ((hk4.alloc (.cells #[.string (S body), .bool false] 128)).trans' k5 (fun _ _ h => h) (fun j hj e => by have := kU2.size; omega)).trans' k6 (fun _ _ h => h) (fun j hj e => absurd e.1 (by omega))
        have c36 := hsb6.cell 3
        simp only [List.getElem?_cons_zero, List.getElem?_cons_succ] at c36
        go_roundw
        · refine ⟨pre ++ [a], r, R'.drop 58, Wb ++ chunk, 58 - (R'.take 58).length, .slice (some ⟨g, 0, none⟩) (pre.length + 1) cap3, by rw [hx]; simp, hch', by rw [Hnx.out], hbd6, ?_, ?_, by omega, ?_, ?_, hb36, hk6⟩
          · rw [← Hchunk.out]
            have hWR' : Wb ++ R' = R := by rw [hWR]; simp [zeros]
            rw [← hWR']
            by_cases h58 : 58 ≤ R'.length
            · have e0 : 58 - (R'.take 58).length = 0 := by rw [List.length_take]; omega
              rw [e0]
              simp [zeros]
            · rw [List.take_of_length_le (by omega), List.drop_of_length_le (by omega), List.append_nil, List.append_assoc]
          · by_cases h58 : 58 ≤ R'.length
            · left; rw [List.length_take]; omega
            · right; exact List.drop_of_length_le (by omega)
          · exact hsb6
          · have : (pre ++ [a]).length = pre.length + 1 := by simp
            rw [this]; exact hrow6
        · have e1 : sliceLen W6 ⟨s, 3, none⟩ = pre.length + 1 := by unfold sliceLen; rw [c36]
          have e2 : sliceLen wr ⟨s, 3, none⟩ = pre.length := by unfold sliceLen; rw [hcw]
          rw [e1, e2]
          omega
end Go.Proofs.Obj

/- S4 -/
namespace Go.Proofs.Obj
open Go Go.RowKit

/-- 'append(v, x)' AS A STEP OF A REGION THAT DRAWS. -/
theorem step_app_own {P : Program} {W : World} {ops : Array Oper} {o : Oper} {a : Act} {K : Act → World → Prop} {Q : Exit → Act → World → Prop} {E : Prop} (hgd : o.guard = none) (s x : Operand) (t e : TypeId) (z : Value) (size bytes : Nat)
    (ho : o.op = .call { callee := .builtin .append, args := #[s, x], argTypes := #[t, t] })
    (ht : P.underlying t = some (.slice e)) (hinfo : (P.info? e).map (fun i => (i.zero, i.size, i.bytes)) = some (some z, size, bytes)) (hz : z.cells.size = size) (hsz : 0 < size) (hb0 : 0 < bytes)
    (base : Nat) (v : Value) (n : Nat) (xs cs : List Value) (ad : Addr) (hs : a.eval s = v) (hx : a.eval x = .slice (some ad) 1 1) (hcs : cs.length = size) (h1 : ∀ u ∈ cs, u.oneCell' = true) (hnews : ∀ j u, cs[j]? = some u → W.cell? (ad.add j) = some u)
    (HO : W.ownsRow base e size v n xs) (hbase : base ≤ W.heap.size) (hl : (n + 1) * bytes ≤ 140737488355328)
    (h : ∀ g cap W', W'.ownsRow base e size (.slice (some ⟨g, 0, none⟩) (n + 1) cap) (n + 1) (xs ++ cs) → Chg (fun k => v.ownBlock = some k) W W' → (v.ownBlock = some g ∨ W.heap.size ≤ g) →
      K (a.put o.dst (.slice (some ⟨g, 0, none⟩) (n + 1) cap)) W') :
    if Region.wanted o (yielded ops a.tmps) = true then Oper.wp P o a W K Q else E := by
  have hw : Region.wanted o (yielded ops a.tmps) = true := by simp [Region.wanted, hgd]
  rw [if_pos hw]
  obtain ⟨i0, hi, hzz⟩ := Option.map_eq_some_iff.1 hinfo
  simp only [Prod.mk.injEq] at hzz
  obtain ⟨hz0, hz1, hz2⟩ := hzz
  have hlen : n + 1 ≤ 140737488355328 := Nat.le_trans (Nat.le_mul_of_pos_right _ hb0) hl
  obtain ⟨v1, w1, hrun, hown, hg, _, hat⟩ := run_append_own_at (P := P) W base t o.type e i0 z size bytes ht hi hz0 hz1 hz2 hz hsz v n xs HO ad 1 1 cs (by rw [hcs, Nat.one_mul]) hnews h1 (by simp only [maxLen]; omega) hl hbase
  unfold Oper.wp
  simp [execOp, ho, resolve, invoke, builtin, hs, hx, hrun, Result.andThen]
  obtain ⟨g, cap, rfl⟩ := ownsRow_succ hown
  refine h g cap w1 hown ((Chg.refl _ W).grown hg (fun k _ e => e)) ?_
  rcases hat with hat | hat
  · exact .inl (by simpa [Value.ownBlock] using hat.symm)
  · simp [Value.ownBlock] at hat; exact .inr (by omega)

/-- Where a blob stands. -/
structure Ent where
  size : Nat
  secs : List Nat
abbrev Tab := List (List UInt8 × Ent)

/-- A slice of numbers that reads as some. -/
def Secs (w : World) (v : Value) (l : List Nat) : Prop := ∃ A cap, v = .slice A l.length cap ∧ (l = [] ∨ ∃ b off c, A = some ⟨b, off, none⟩ ∧ Blk w b 3 c ∧ RdAt w b off (natInts l))
def Off3 (w : World) (S : Nat → Prop) : Prop := ∀ b c, Blk w b 3 c → ¬ S b
theorem Secs.chg {w w' : World} {v : Value} {l : List Nat} (h : Secs w v l) {S : Nat → Prop} (k : Chg S w w') (hn : Off3 w S) : Secs w' v l := by
  obtain ⟨A, cap, hv, h⟩ := h
  refine ⟨A, cap, hv, ?_⟩
  rcases h with h | ⟨b, off, c, ha, hb, hr⟩
  · exact .inl h
  · exact .inr ⟨b, off, c, ha, hb.chg k (hn _ _ hb), hr.chg k (hn _ _ hb)⟩
theorem Secs.of_own {w : World} {base n : Nat} {v : Value} {l : List Nat} (h : w.ownsRow base 3 1 v n (natInts l)) : Secs w v l := by
  have hn : n = l.length := by have := h.1; simp [natInts] at this; omega
  subst hn
  rcases h.2 with ⟨rfl, h0⟩ | ⟨g, cap, cur, rfl, hb, hg, _⟩
  · exact ⟨none, 0, by rw [h0], .inl (List.eq_nil_of_length_eq_zero h0)⟩
  · exact ⟨_, cap, rfl, .inr ⟨g, 0, cur.toList, rfl, hg, own_rd h⟩⟩
def EntAt (w : World) (v : Value) (e : Ent) : Prop := ∃ sv, v = .agg #[.int .i64 e.size, sv] ∧ Secs w sv e.secs
def TabAt (w : World) : KV → Tab → Prop
  | [], [] => True
  | x :: r, y :: t => x.1 = y.1 ∧ EntAt w x.2 y.2 ∧ TabAt w r t
  | _, _ => False
theorem EntAt.chg {w w' : World} {v : Value} {e : Ent} (h : EntAt w v e) {S : Nat → Prop} (k : Chg S w w') (hn : Off3 w S) : EntAt w' v e := by
  obtain ⟨sv, hv, h⟩ := h
  exact ⟨sv, hv, h.chg k hn⟩
theorem TabAt.chg {w w' : World} {S : Nat → Prop} (k : Chg S w w') (hn : Off3 w S) : ∀ {kv : KV} {t : Tab}, TabAt w kv t → TabAt w' kv t
  | [], [], _ => trivial
  | _ :: _, _ :: _, h => ⟨h.1, h.2.1.chg k hn, TabAt.chg k hn h.2.2⟩
theorem TabAt.snoc {w : World} {k : List UInt8} {v : Value} {e : Ent} (hv : EntAt w v e) : ∀ {kv : KV} {t : Tab}, TabAt w kv t → TabAt w (kv ++ [(k, v)]) (t ++ [(k, e)])
  | [], [], _ => ⟨rfl, hv, trivial⟩
  | _ :: _, _ :: _, h => ⟨h.1, h.2.1, TabAt.snoc hv h.2.2⟩
theorem TabAt.keys {w : World} : ∀ {kv : KV} {t : Tab}, TabAt w kv t → kv.map (·.1) = t.map (·.1)
  | [], [], _ => rfl
  | _ :: _, _ :: _, h => by simp [h.1, TabAt.keys h.2.2]
theorem TabAt.length {w : World} {kv : KV} {t : Tab} (h : TabAt w kv t) : kv.length = t.length := by
  have := congrArg List.length h.keys
  simpa using this

/-- An entry's bytes in an index, and an index' bytes. -/
def entBytes (x : List UInt8 × Ent) : List UInt8 := littleL x.1.length 2 ++ x.1 ++ littleL x.2.size 4 ++ x.2.secs.flatMap (littleL · 2)
def rowBytes (t : Tab) : List UInt8 := t.flatMap entBytes
/-- An entry as it may be. -/
def EntOK (x : List UInt8 × Ent) : Prop := 0 < x.1.length ∧ x.1.length < 65536 ∧ x.2.size < 4294967296 ∧ x.2.secs.length = (x.2.size + 64 - 1) / 64 ∧ ∀ a ∈ x.2.secs, a < 65536
def Rising (t : List (List UInt8)) : Prop := t.Pairwise fun a b => bytesBefore a b = true

theorem bytesBefore_irrefl : ∀ l, bytesBefore l l = false
  | [] => rfl
  | a :: l => by simp [bytesBefore, bytesBefore_irrefl l, UInt8.lt_irrefl]
theorem bytesBefore_asymm : ∀ {a b : List UInt8}, bytesBefore a b = true → bytesBefore b a = false
  | [], [], h => by simp [bytesBefore] at h
  | [], _ :: _, _ => rfl
  | _ :: _, [], h => by simp [bytesBefore] at h
  | a :: r, b :: s, h => by
    simp only [bytesBefore, Bool.or_eq_true, Bool.and_eq_true, decide_eq_true_eq, beq_iff_eq, Bool.or_eq_false_iff, decide_eq_false_iff_not] at h ⊢
    rcases h with h | ⟨rfl, h⟩
    · exact ⟨fun h2 => absurd h (UInt8.lt_asymm h2), by
        have : b ≠ a := fun e => by subst e; exact UInt8.lt_irrefl _ h
        simp [this]⟩
    · exact ⟨UInt8.lt_irrefl _, by simp [bytesBefore_asymm h]⟩

/-- What comes last goes last. -/
theorem kvPut_last (k : List UInt8) (v : Value) : ∀ (kv : KV), (∀ x ∈ kv, bytesBefore x.1 k = true) → kvPut k v kv = kv ++ [(k, v)] := by
  intro kv h
  have hd : kvDel k kv = kv := by
    unfold kvDel
    rw [List.filter_eq_self]
    intro x hx
    have := h x hx
    have hne : x.1 ≠ k := fun e => by rw [e, bytesBefore_irrefl] at this; cases this
    simp [hne]
  rw [kvPut, hd]
  clear hd
  induction kv with
  | nil => rfl
  | cons a r ih =>
    have h1 := bytesBefore_asymm (h a (by simp))
    rw [kvIns]
    dsimp only
    rw [h1]
    simp [ih (fun x hx => h x (by simp [hx]))]
end Go.Proofs.Obj
