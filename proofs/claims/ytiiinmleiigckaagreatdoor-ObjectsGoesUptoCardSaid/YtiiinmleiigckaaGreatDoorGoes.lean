/- ObjectsGoes holds: behind a crash a store goes on: further commits are as a map has it, crash for crash. Where what it reads is of bulk at most 1048576; the card ties the two tables that the row lists. -/
import Derived.Test.YtiiinmleiigckaaGreatDoorGZB
import Derived.Test.YtiiinmleiigckaaGreatDoorGZC
import Derived.Test.YtiiinmleiigckaaGreatDoorCards
import Derived.Test.YtiiinmleiigckaaGreatDoorTie
import Derived.Deep.DeepHandedRow
import Derived.Lib.LaidTab
set_option linter.unusedVariables false
set_option linter.unusedSimpArgs false

namespace Go.Proofs.Obj
open Go Go.RowKit Go.Shelf

theorem Round.puts {w0 wr : World} {d q n j : Nat} {L : DL} {D : Dk} {s turn : Nat} {idx : List Nat} {tab : Tab} {m : MpL} {v1 v2 vi : Value} {ns : List UInt8} (hR : Round w0 d q n j wr L D s turn idx tab m v1 v2) (hbs : BytesAt wr vi ns) (hbl : ns.length ≤ 140737488355328) (W : World) (k : Same wr W) :
    Calls Tryz.prog 16 #[vi] W fun e w' => ∃ v' l, e = .returned v' ∧ PutsAt w' v' l ∧ RowFrom (Away w' L s) v' ∧ l.length ≤ 4 ∧ (∀ p ∈ l, p.key.length ≤ 300 ∧ p.blob.length ≤ 131072) ∧ Same W w' := by
  refine (puts_spec (hbs.same k) hbl).mono ?_
  rintro e w' ⟨v', l, h1, h2, h3, h4, h5, h6, h7⟩
  refine ⟨v', l, h1, h2, h3.mono (fun b hb => ⟨hb.2, fun e => ?_, fun e => ?_⟩), h4, fun p hp => (h6 p hp).1, h7⟩
  · have := hR.live.s_lt; have := k.size; omega
  · have := hR.live.disk.fp_lt e; have := k.size; omega

/-- A fuse in a disk in peace. -/
theorem DGood.setFuse {D : Dk} {turn : Nat} {idx : List Nat} {tab : Tab} {m : MpL} (h : DGood D turn idx tab m) (n : Int) : DGood (D.setFuse n) turn idx tab m :=
  ⟨h.up, h.loose, by show -1 ≤ max (-1) n; omega, h.good, h.small, h.blobs⟩
theorem StoreAt.chgD {w w' : World} {L : DL} {D : Dk} {s d : Nat} {turn : Int} {idx : List Nat} {tab : Tab} {down : Bool} (h : StoreAt w s d turn idx tab down) (hD : DiskAt w L D) (k : Chg L.fp w w') : StoreAt w' s d turn idx tab down := by
  refine h.chg k ?_ (fun b l hm e => hD.fp_map hm e rfl) (fun b c hb e => hD.ne_of hb (by decide) (by decide) (by decide) e)
  obtain ⟨_, _, _, hsb, _⟩ := h
  exact fun e => hD.ne_of hsb (by decide) (by decide) (by decide) e
theorem fuse_live {w : World} {L : DL} {s : Nat} {D : Dk} {turn : Nat} {idx : List Nat} {tab : Tab} {m : MpL} (h : LiveM w L s D turn idx tab m) (n : Nat) (hn : n ≤ 4294967296) :
    Calls Tryz.prog 28 #[.pointer (some ⟨L.d, 0, none⟩), .int .i64 n] w fun e w' => e = .returned (.tuple #[]) ∧ Chg L.fp w w' ∧ LiveM w' L s (D.setFuse n) turn idx tab m := by
  refine (fuse_spec h.disk (n : Int) (by omega) (by omega)).mono ?_
  rintro e w' ⟨rfl, k, hD⟩
  have k' : Chg L.fp w w' := k.mono (fun j _ e => .inl e)
  exact ⟨rfl, k', hD, h.dg.setFuse n, h.store.chgD h.disk k'⟩
/-- A disk that bears a map, in peace, is as good behind a crash. -/
theorem DGood.crash0 {D : Dk} {turn : Nat} {idx : List Nat} {tab : Tab} {m : MpL} (h : DGood D turn idx tab m) (keep : List Int) : DGood (D.crash keep) turn idx tab m ∧ (D.crash keep).firm.length = D.firm.length ∧ (D.crash keep).fuse = -1 :=
  h.crash (W := []) (fun x hx => by simp at hx) (.inl ⟨rfl, 0, by simp [h.loose]⟩) keep

/-- Of a store that is down nothing is told. -/
theorem keysDown {w : World} {s d : Nat} {turn : Int} {idx : List Nat} {tab : Tab} (h : StoreAt w s d turn idx tab true) :
    Calls Tryz.prog 23 #[.pointer (some ⟨s, 0, none⟩)] w fun e w' => e = .returned (.slice none 0 0) ∧ Same w w' := by
  obtain ⟨mb, iv, kv, hsb, _⟩ := h
  exact keys_down hsb
/-- A crash, what stays given by a row of the call's own. -/
theorem crash_own {w : World} {L : DL} {D : Dk} (hD : DiskAt w L D) (hl : D.loose.length ≤ 65536) {base n : Nat} {v : Value} {xs : List Int} (hrow : w.ownsRow base 3 1 v n (xs.map (.int .i64))) (hn : n = xs.length) (hm : n ≤ 1048576) (hb : ∀ k, L.fp k → k < base) :
    Calls Tryz.prog 29 #[.pointer (some ⟨L.d, 0, none⟩), v] w (DPost w L (D.crash xs) (.tuple #[])) := by
  obtain ⟨A, c, rfl, hA⟩ := own_from hrow
  subst hn
  have hr : Rd w A (Obj.ints xs) := by
    rcases hrow.2 with ⟨he, h0⟩ | ⟨g, cap, cur, he, _⟩
    · left; rw [List.eq_nil_of_length_eq_zero h0]; rfl
    · cases he; exact .inr ⟨g, 0, rfl, own_rd hrow⟩
  exact crash_spec hD hl hr (by omega) (fun a ha e => by have := (hA a ha).1; have := hb _ e; omega)

/-- What a law holds beside a store that is written. -/
structure Held (w0 : World) (q x : Nat) (W : World) (L : DL) (s : Nat) (vp u1 u2 y1 y2 : Value) (l : List PutM) (m n : MpL) : Prop where
  p : PutsAt W vp l
  pf : RowFrom (Away W L s) vp
  m : MapV W (.agg #[u1, u2]) m
  mf : AggFrom (Away W L s) (.agg #[u1, u2])
  n : MapV W (.agg #[y1, y2]) n
  nf : AggFrom (Away W L s) (.agg #[y1, y2])
  bq : Blk W q 32 [u1, u2]
  bx : Blk W x 32 [y1, y2]
  fp : ∀ k, L.fp k → w0.heap.size ≤ k
  hs : w0.heap.size ≤ s
  same : Same w0 W
section
variable {w0 W W' : World} {q x : Nat} {L L' : DL} {s : Nat} {vp u1 u2 y1 y2 : Value} {l : List PutM} {m n : MpL}
theorem Held.chg (h : Held w0 q x W L s vp u1 u2 y1 y2 l m n) (k : Chg (fun k => k = s ∨ L.fp k) W W') (hf : ∀ k, L'.fp k → L.fp k ∨ W.heap.size ≤ k) (hq : ¬ (q = s ∨ L.fp q)) (hx : ¬ (x = s ∨ L.fp x)) : Held w0 q x W' L' s vp u1 u2 y1 y2 l m n := by
  have hn : ∀ b, Away W L s b → ¬ (b = s ∨ L.fp b) := fun b hb e => e.elim hb.2.1 hb.2.2
  have hz := h.same.size
  refine ⟨h.p.chg h.pf k hn, h.pf.mono (Away.next k.size hf), h.m.chg h.mf k hn, h.mf.mono (Away.next k.size hf), h.n.chg h.nf k hn, h.nf.mono (Away.next k.size hf), h.bq.chg k hq, h.bx.chg k hx, fun j hj => (hf j hj).elim (h.fp j) (fun e => by omega), h.hs, ?_⟩
  exact h.same.trans' k (fun _ _ h => h) (fun j hj e => e.elim (fun e => by have := h.hs; omega) (fun e => by have := h.fp j e; omega))
theorem Held.then_same (h : Held w0 q x W L s vp u1 u2 y1 y2 l m n) (k : Same W W') : Held w0 q x W' L s vp u1 u2 y1 y2 l m n :=
  ⟨h.p.same k, h.pf.mono (Away.same k), h.m.same k, h.mf.mono (Away.same k), h.n.same k, h.nf.mono (Away.same k), h.bq.same k, h.bx.same k, h.fp, h.hs, h.same.trans k⟩
theorem Blk.awayOf {c : List Value} {d : Nat} {turn : Int} {idx : List Nat} {tab : Tab} {down : Bool} {D : Dk} (hb : Blk W q 32 c) (hD : DiskAt W L D) (hS : StoreAt W s d turn idx tab down) : ¬ (q = s ∨ L.fp q) := fun e => e.elim (fun e => by
  obtain ⟨_, _, _, hsb, _⟩ := hS
  exact Blk.type_ne hsb hb (by decide) e.symm) (hD.ne_of hb (by decide) (by decide) (by decide))
end
end Go.Proofs.Obj

namespace Go.Proofs.Obj
open Go Go.RowKit Go.Shelf

/-- A slice of bytes that may be cut. -/
def BytesC (w : World) (v : Value) (b : List UInt8) : Prop := ∃ A cap, v = .slice A b.length cap ∧ b.length ≤ cap ∧ cap ≤ 9223372036854775807 ∧ (cap = 0 ∨ ∃ bb off, A = some ⟨bb, off, none⟩ ∧ RdAt w bb off (u8s b))
theorem BytesC.bytes {w : World} {v : Value} {b : List UInt8} (h : BytesC w v b) : BytesAt w v b := by
  obtain ⟨A, cap, hv, h1, _, h3⟩ := h
  refine ⟨A, cap, hv, ?_⟩
  rcases h3 with h3 | ⟨bb, off, hA, hr⟩
  · left; rw [List.eq_nil_of_length_eq_zero (l := b) (by omega)]; rfl
  · exact .inr ⟨bb, off, hA, hr⟩
theorem BytesC.same {w w' : World} {v : Value} {b : List UInt8} (h : BytesC w v b) (k : Same w w') : BytesC w' v b := by
  obtain ⟨A, cap, hv, h1, h2, h3⟩ := h
  exact ⟨A, cap, hv, h1, h2, h3.imp id (fun ⟨bb, off, hA, hr⟩ => ⟨bb, off, hA, hr.chg k (fun h => h)⟩)⟩
theorem size5T (w : World) : (sizeOf (Tryz.prog.elem 38)).run Tryz.prog w = .ok 1 w := by kernel_rfl
theorem elem38 : Tryz.prog.elem 38 = 5 := by kernel_rfl
theorem under38 : Tryz.prog.underlying 38 = some (.slice (Tryz.prog.elem 38)) := by rw [elem38]; exact Tryz.underlying38
theorem bytes_drop {w : World} {v : Value} {l : List UInt8} (h : BytesC w v l) (lo : Nat) (hlo : lo ≤ l.length) :
    ∃ v', (∀ W, (Instr.slice 38 v (some (.int .i64 (lo : Int))) none none).run Tryz.prog W = .ok v' W) ∧ BytesAt w v' (l.drop lo) := by
  obtain ⟨A, cap, rfl, h1, h2, h3⟩ := h
  refine ⟨sliced A lo l.length cap 1, fun W => ?_, ?_⟩
  · rw [run_slice_l W 38 A l.length cap under38 .i64 (lo : Int) (by omega) (by omega), size5T]
    simp [Result.andThen]
  · have hd : (l.drop lo).length = l.length - lo := List.length_drop
    refine ⟨if cap = lo then A else A.map (·.add (lo * 1)), cap - lo, by rw [hd]; rfl, ?_⟩
    by_cases hc : cap = lo
    · left
      rw [List.drop_of_length_le (by omega)]; rfl
    · rcases h3 with h3 | ⟨bb, off, rfl, hr⟩
      · omega
      · right
        refine ⟨bb, off + lo, ?_, fun j u hu => ?_⟩
        · rw [if_neg hc]
          simp [Go.WideShapes.add_plain]
        · unfold u8s at hu
          rw [List.getElem?_map, List.getElem?_drop] at hu
          rw [Nat.add_assoc]
          exact hr (lo + j) u (by unfold u8s; rw [List.getElem?_map]; exact hu)

/-- A disk and a map, between rounds: no store is open. -/
structure RoundD (w0 : World) (d q n j : Nat) (wr : World) (L : DL) (D : Dk) (turn : Nat) (idx : List Nat) (tab : Tab) (m : MpL) (v1 v2 : Value) : Prop where
  hd : L.d = d
  disk : DiskAt wr L D
  dg : DGood D turn idx tab m
  fuse : D.fuse = -1
  len : D.firm.length = n
  turn : turn ≤ j
  blk : Blk wr q 32 [v1, v2]
  map : MapV wr (.agg #[v1, v2]) m
  from' : AggFrom (fun b => b < wr.heap.size ∧ ¬ L.fp b) (.agg #[v1, v2])
  hfp : ∀ k, L.fp k → w0.heap.size ≤ k
  same : Same w0 wr
section
variable {w0 wr W : World} {d q n j x : Nat} {L : DL} {D : Dk} {s turn : Nat} {idx : List Nat} {tab : Tab} {m m2 : MpL} {v1 v2 vp y1 y2 : Value} {l : List PutM}
theorem RoundD.opened (h : RoundD w0 d q n j wr L D turn idx tab m v1 v2) (k : Same wr W) (hL : LiveM W L s D turn idx tab m) (hs : wr.heap.size ≤ s) : Round w0 d q n j W L D s turn idx tab m v1 v2 :=
  have hz := h.same.size
  ⟨h.hd, hL, h.fuse, h.len, h.turn, h.blk.same k, h.map.same k, h.from'.mono (fun b hb => ⟨Nat.lt_of_lt_of_le hb.1 k.size, by have := hb.1; omega, hb.2⟩), by omega, h.hfp, h.same.trans k⟩
theorem Held.keep (h : Held w0 q x W L s vp v1 v2 y1 y2 l m m2) (hd : L.d = d) (hD : DiskAt W L D) (hg : DGood D turn idx tab m) (hf : D.fuse = -1) (hn : D.firm.length = n) (ht : turn ≤ j) : RoundD w0 d q n j W L D turn idx tab m v1 v2 :=
  ⟨hd, hD, hg, hf, hn, ht, h.bq, h.m, h.mf.mono (fun b hb => ⟨hb.1, hb.2.2⟩), h.fp, h.same⟩
theorem Held.put (h : Held w0 q x W L s vp v1 v2 y1 y2 l m m2) (hd : L.d = d) (hD : DiskAt W L D) (hg : DGood D turn idx tab m2) (hf : D.fuse = -1) (hn : D.firm.length = n) (ht : turn ≤ j) (hq : w0.heap.size ≤ q) :
    RoundD w0 d q n j ((W.setCell ⟨q, 0, none⟩ y1).setCell ⟨q, 1, none⟩ y2) L D turn idx tab m2 y1 y2 := by
  have kp := Chg.put2 W q y1 y2
  obtain ⟨A1, c1, A2, c2, he⟩ := h.m.form
  cases he
  exact ⟨hd, hD.chg kp (fun b hb e => hD.ne_of h.bq (by decide) (by decide) (by decide) (e ▸ hb)), hg, hf, hn, ht, h.bq.put2 _ _, h.n.chg1 h.bq kp, h.nf.mono (fun b hb => ⟨Nat.lt_of_lt_of_le hb.1 kp.size, hb.2.2⟩), h.fp, h.same.trans' kp (fun _ _ h => h) (fun k hk e => by omega)⟩
end
end Go.Proofs.Obj

/-
  How the laws' arguments are opened: a slice of bytes that may be cut.
-/
namespace Go.Proofs.Obj
open Go Go.RowKit Go.ChangeShapes Go.WideShapes Go.Deep
section
variable {H : Type} {enc : TypeId × Value → H} {W : World}
theorem open_bytesC {a0 : Option Addr} {len0 cap0 : Nat} {d : DataW H} {pl : List MemPlace} (h : DataW.Trod enc Tryz.prog W 0 (fun _ => true) true 38 (.slice a0 len0 cap0) d pl) :
    ∃ l, BytesC W (.slice a0 len0 cap0) l ∧ l.length ≤ Go.Proofs.YtiiinmleiigckaaGreatDoor.Rows.uptoBulk d := by
  obtain ⟨fuel, hf⟩ := h
  rcases open_ints Tryz.underlying38 Tryz.underlying5 cells5 hf with ⟨hcs, hx⟩ | ⟨a, len, cap, zs, hcs, _, hl, hm, hz, hx, hcell, hwz⟩
  · simp [Value.cells] at hcs
    obtain ⟨rfl, rfl, rfl⟩ := hcs
    exact ⟨[], ⟨none, 0, rfl, Nat.le_refl _, by omega, .inl rfl⟩, by simp⟩
  · simp [Value.cells] at hcs
    obtain ⟨rfl, rfl, rfl⟩ := hcs
    simp only [if_true] at hz
    obtain ⟨rfl, rfl⟩ := Prod.mk.inj hx
    have hlen : ((zs.take len0).map fun z => UInt8.ofNat z.toNat).length = len0 := by simp; omega
    refine ⟨(zs.take len0).map fun z => UInt8.ofNat z.toNat, ⟨some a, cap0, by rw [hlen], by rw [hlen]; exact hl, by simpa [maxLen] using hm, ?_⟩, ?_⟩
    · by_cases h0 : cap0 = 0
      · exact .inl h0
      · right
        obtain ⟨b, off, rfl, hc⟩ := ints_at hcell (by omega)
        refine ⟨b, off, rfl, fun j u hu => ?_⟩
        rw [u8s_of _ (fun z hz => hwz z (List.mem_of_mem_take hz))] at hu
        obtain ⟨hj, rfl⟩ := List.getElem?_eq_some_iff.1 hu
        simp at hj
        rw [hc j (by omega)]
        simp [List.getD, List.getElem?_eq_getElem (show j < zs.length by omega)]
    · rw [hlen]
      have h1 := bulk_len (H := H) (lits .u8 (zs.take len0))
      have h2 : (lits (H := H) .u8 (zs.take len0)).length = len0 := by simp [lits]; omega
      simp only [Go.Proofs.YtiiinmleiigckaaGreatDoor.Rows.uptoBulk]
      omega
end
end Go.Proofs.Obj

namespace Go.Proofs.Obj
open Go Go.RowKit Go.Shelf

set_option maxRecDepth 100000 in
set_option maxHeartbeats 4000000 in
theorem goes_walk {w : World} {v0 v1 v2 : Value} {ls : List (List UInt8)} {fuses keep : List UInt8} (hls : ByteRows w v0 ls) (hll : ls.length ≤ 140737488355328) (hfs : BytesAt w v1 fuses) (hfsl : fuses.length ≤ 1048576) (hk : BytesC w v2 keep) (hkl : keep.length ≤ 1048576) :
    Calls Tryz.prog 9 #[v0, v1, v2] w fun e w' => e = .returned (.bool true) ∧ Same w w' := by
  obtain ⟨A, cap, rfl, hrow⟩ := hls
  have hgo : ((10 : Int) < (ls.length : Int)) ∨ ls.length ≤ 10 := by omega
  have Hrow := Lib.hid hrow
  clear hrow
  go_enter Tryz.func9, Tryz.ntmps9
  go_wp2_with fail
  refine (new_live 600 (by decide) (by decide)).mono ?_
  rintro e w1 ⟨L, rfl, k1, hfp, hD⟩
  rcases hgo with hgo | hgo
  · go_wp2_with (first
      | (go_at_call 14; refine (err_spec _ _).mono ?_; rintro e w9 ⟨rfl, rfl⟩)
      | (go_at_call 12; refine (awake_spec _).mono ?_; rintro e w2 ⟨rfl, k2⟩))
    go_ret
    exact ⟨rfl, k1.trans k2⟩
  · have hgo' : ¬ ((10 : Int) < (ls.length : Int)) := by omega
    go_wp2_with (first | (go_at_call 14; refine (err_spec _ _).mono ?_; rintro e w9 ⟨rfl, rfl⟩))
    have kq : Same w1 (w1.alloc (.cells #[.slice none 0 0, .slice none 0 0] 32)) := (Chg.refl _ w1).alloc _
    have hR : RoundD w L.d w1.heap.size 600 0 (w1.alloc (.cells #[.slice none 0 0, .slice none 0 0] 32)) L ⟨List.replicate 600 zero64, [], false, -1⟩ 0 [] [] [] (.slice none 0 0) (.slice none 0 0) :=
      ⟨rfl, hD.same kq, new_good (by decide) (by decide), rfl, by simp, Nat.le_refl _, Blk.new w1 32 _, ⟨_, _, rfl, ⟨none, 0, rfl, .inl rfl⟩, ⟨none, 0, rfl, .inl rfl⟩⟩, ⟨none, 0, 0, none, 0, 0, rfl, fun _ e => (by cases e), fun _ e => (by cases e)⟩, hfp, k1.trans kq⟩
    have hq : w.heap.size ≤ w1.heap.size := k1.size
    generalize w1.alloc (.cells #[.slice none 0 0, .slice none 0 0] 32) = w3 at *
    generalize w1.heap.size = q at *
    obtain ⟨d, hd⟩ : ∃ d, L.d = d := ⟨_, rfl⟩
    rw [hd] at hR
    rw [hd]
    clear hD hfp k1 kq
    go_loopw [10] (fun i wr => ∃ (j : Nat) (L : DL) (D : Dk) (turn : Nat) (idx : List Nat) (tab : Tab) (m : MpL) (v1 v2 : Value), j ≤ ls.length ∧ i = .int .i64 j ∧ Hid (RoundD w d q 600 j wr L D turn idx tab m v1 v2)) (fun i _ => ls.length - (intOf i).toNat)
    case atStart => exact ⟨0, L, _, 0, _, _, _, _, _, Nat.zero_le _, rfl, Lib.hid hR⟩
    case round =>
      obtain ⟨j, L, D, turn, idx, tab, m, u1, u2, hj, rfl, HR⟩ := hrel
      have hR0 := HR.out
      obtain ⟨A1, c1, A2, c2, he⟩ := hR0.map.form
      cases he
      by_cases hjt : j < ls.length
      · obtain ⟨b, off, vi, rfl, c0, hbs, hbl⟩ := Hrow.out j hjt
        have hd := hR0.hd
        subst hd
        have hop := open_live hR0.disk hR0.dg
        have htj : turn ≤ 10 := by have := hR0.turn; omega
        have htj2 := hR0.turn
        go_wp2_with fail
        refine hop.mono ?_
        rintro e w4 ⟨s, rfl, hLs, hss, k4⟩
        have hR := hR0.opened k4 hLs hss
        obtain ⟨hml, hms⟩ := hR.live.dg.msmall
        have his := is_spec hR.live hR.map (by omega)
        rw [decide_eq_true rfl] at his
        obtain ⟨y0, y1, _⟩ := hR.blk.st2
        clear hop hLs hss k4
        go_wp2_with (first | (go_at_call 14; refine (err_spec _ _).mono ?_; rintro e w9 ⟨rfl, rfl⟩) | fail)
        refine his.mono ?_
        rintro e w5 ⟨rfl, k5⟩
        have hR := hR.then_same k5
        have c0 := cell_chg hR.same c0 (fun h => h)
        have hbs := hbs.same hR.same
        clear his y0 y1 k5
        go_wp2_with fail
        refine (puts_spec hbs hbl).mono ?_
        rintro e w6 ⟨vp, l, rfl, hp, hpf, hl4, hmay, hpz, k6⟩
        have z6 := k6.size
        have hri := hR.live.dg.rising
        have hslt := hR.live.s_lt
        have hfplt : ∀ k, L.fp k → k < w5.heap.size := fun k hk => hR.live.disk.fp_lt hk
        have hall := mayF_all hmay
        have hsm2 := mpPuts_small l (m := m) (n := 34064) (by omega) hms hall
        have hmc := mapCommit_spec (hR.map.same k6) hp hri (hR.from'.mono (Away.same k6)) (by omega) hms hall
        obtain ⟨y0, y1, _⟩ := (hR.blk.same k6).st2
        clear c0 hbs
        go_wp2_with fail
        refine hmc.mono ?_
        rintro e w7 ⟨v7, rfl, hm7, hf7, k7⟩
        obtain ⟨B1, d1, B2, d2, rfl⟩ := hm7.form
        have z7 := k7.size
        have kx : Same w7 (w7.alloc (.cells #[.slice B1 (mpPuts m l).length d1, .slice B2 (mpPuts m l).length d2] 32)) := (Chg.refl _ w7).alloc _
        have k58 := (k6.trans k7).trans kx
        have z8 : (w7.alloc (.cells #[.slice B1 (mpPuts m l).length d1, .slice B2 (mpPuts m l).length d2] 32)).heap.size = w7.heap.size + 1 := by simp
        have hH : Held w q w7.heap.size (w7.alloc (.cells #[.slice B1 (mpPuts m l).length d1, .slice B2 (mpPuts m l).length d2] 32)) L s vp (.slice A1 m.length c1) (.slice A2 m.length c2) (.slice B1 (mpPuts m l).length d1) (.slice B2 (mpPuts m l).length d2) l m (mpPuts m l) :=
          ⟨hp.same (k7.trans kx), hpf.mono (fun b hb => ⟨by omega, by omega, fun h => by have := hfplt b h; omega⟩), hR.map.same k58, hR.from'.mono (Away.same k58), hm7.same kx, hf7.mono (fun b hb => hb.elim (fun hb => ⟨by have := hb.1; omega, hb.2⟩) (fun hb => ⟨by omega, by omega, fun h => by have := hfplt b h; omega⟩)), hR.blk.same k58, Blk.new w7 32 _, hR.hfp, hR.hs, hR.same.trans k58⟩
        have hL8 := hR.live.same k58
        have hlen := hR.len
        have hfull := full_spec hL8.disk hH.m hH.n (by omega) (by omega) hms hsm2.2
        rw [hlen] at hfull
        obtain ⟨y0, y1, _⟩ := hH.bq.st2
        obtain ⟨x0, x1, _⟩ := hH.bx.st2
        clear hmc hp hpf hm7 hf7 kx k58 k6 k7 hR HR hR0
        by_cases hfl : 600 < 3 * (needOf m + needOf (mpPuts m l)) + 40
        · rw [decide_eq_true hfl] at hfull
          go_wp2_with (first
            | (go_at_call 20; refine hfull.mono ?_; rintro e w9 ⟨rfl, k9⟩)
            | (go_at_call 12; refine (awake_spec _).mono ?_; rintro e w10 ⟨rfl, k10⟩))
          go_ret
          exact ⟨rfl, (hH.same.trans k9).trans k10⟩
        · rw [decide_eq_false hfl] at hfull
          go_wp2_with fail
          refine hfull.mono ?_
          rintro e w9 ⟨rfl, k9⟩
          have hH := hH.then_same k9
          have hL9 := hL8.same k9
          clear hL8 hfull x0 x1 y0 y1 k9
          by_cases hjf : j < fuses.length
          · obtain ⟨Af, cf, rfl, hrf⟩ := hfs.same hH.same
            obtain ⟨bf, of, rfl, hrr⟩ := hrf.at_ (by simp [u8s]; omega)
            have x0 := hrr j (.int .u8 (fuses[j].toNat : Nat)) (by simp [u8s, hjf])
            have hff0 : fuses[j].toNat < 256 := fuses[j].toNat_lt
            generalize fuses[j].toNat = fz at *
            obtain ⟨ff, hff, hff2⟩ : ∃ ff : Nat, (fz : Int).tmod 60 = (ff : Int) ∧ ff < 60 := ⟨fz % 60, by rw [Int.tmod_eq_emod_of_nonneg (by omega)]; omega, by omega⟩
            clear hrr hrf
            go_wp2_with fail
            refine (fuse_live hL9 ff (by omega)).mono ?_
            rintro e wf ⟨rfl, kf, hLf⟩
            have hHf := hH.chg (L' := L) (kf.mono (fun _ _ h => .inr h)) (fun _ h => .inl h) (Blk.awayOf hH.bq hL9.disk hL9.store) (Blk.awayOf hH.bx hL9.disk hL9.store)
            have hlenf : (D.setFuse ff).firm.length = 600 := hlen
            generalize D.setFuse ff = Df at *
            clear kf x0 hff hH hL9
            have hc := commit_live hLf hHf.p (by omega) (fun p hp => by have := hall p hp; omega) (by omega)
            obtain ⟨Ak, ck, hvk, hk1, hk2, hk3⟩ := hk.same hHf.same
            have hkc : BytesC w v2 keep := hk
            go_wp2_with fail
            refine hc.mono ?_
            rintro e wg ⟨Lg, Dg, cg, rfl, hdg, _, hfg, kg, hE⟩
            have hHg := hHf.chg kg hfg (Blk.awayOf hHf.bq hLf.disk hLf.store) (Blk.awayOf hHf.bx hLf.disk hLf.store)
            obtain ⟨vd, hsl, hbd⟩ := bytes_drop hk (min keep.length j) (Nat.min_le_left _ _)
            have hdl : (keep.drop (min keep.length j)).length ≤ 1048576 := by rw [List.length_drop]; omega
            have Hbd := Lib.hid hbd
            subst hvk
            clear hc kg hfg hHf hbd hk1 hk2 hk3
            rcases hE with ⟨a1, _⟩ | ⟨_, _, a3, _⟩ | ⟨_, rfl, idx2, tab2, hLg, a5, a6⟩ | ⟨_, rfl, hSg, hDg, a5, a6, a7, a8⟩
            · rw [hmay] at a1; cases a1
            · rw [hlenf] at a3; exact absurd a3 hfl
            · have hSg := hLg.store
              have hDg := hLg.disk
              have hlo : Dg.loose.length ≤ 65536 := by rw [hLg.dg.loose]; simp
              have hcr := hLg.dg.crash0
              have hlg : Dg.firm.length = 600 := a5.trans hlenf
              have hmn : ((min keep.length j : Nat) : Int) = min (keep.length : Int) (j : Int) := by omega
              rw [hmn] at hsl
              go_wp2_with (first | (go_at_call 14; refine (err_spec _ _).mono ?_; rintro e w40 ⟨rfl, rfl⟩) | fail)
              refine (ints_spec (Hbd.out.same hHg.same) hdl).mono ?_
              rintro e wa ⟨va, rfl, hrowa, ka⟩
              have hDa := hDg.same ka
              have hSa := hSg.same ka
              have hcs := crash_own hDa hlo hrowa (by simp [intsF]) hdl (fun k hk => hDg.fp_lt hk)
              have HHa := hHg.then_same ka
              rw [hdg] at hcs
              clear hrowa hHg hsl hmn
              go_wp2_with fail
              refine hcs.mono ?_
              rintro e wb ⟨rfl, Lb, hDb, kb, hdb, _, hfb⟩
              have HHb := HHa.chg (kb.mono (fun _ _ h => .inr h)) hfb (Blk.awayOf HHa.bq hDa hSa) (Blk.awayOf HHa.bx hDa hSa)
              obtain ⟨hgb, hlb, hub⟩ := hcr (intsF (keep.drop (min keep.length j)))
              clear hcs hDa hSa HHa kb hfb ka
              generalize Dg.crash (intsF (keep.drop (min keep.length j))) = Db at *
              have hop := open_live hDb hgb
              rw [hdb, hdg] at hop
              go_wp2_with fail
              refine hop.mono ?_
              rintro e wc ⟨t, rfl, hLt, ht, kc⟩
              have HHc := HHb.then_same kc
              have hDc := hDb.same kc
              have hdc : Lb.d = L.d := hdb.trans hdg
              obtain ⟨x0, x1, _⟩ := HHc.bx.st2
              have his := is_spec hLt HHc.n (by omega)
              clear HHb hop kc
              rw [decide_eq_true rfl] at his
              go_wp2_with (first | (go_at_call 14; refine (err_spec _ _).mono ?_; rintro e w40 ⟨rfl, rfl⟩) | fail)
              refine his.mono ?_
              rintro e w41 ⟨rfl, k41⟩
              have HHd := HHc.then_same k41
              have hR2 := HHd.put (j := j + 1) (n := 600) hdc (hDc.same k41) hgb hub (by omega) (by omega) hq
              obtain ⟨r0, r1, r2, r3, r4, r5⟩ := HHd.bq.st2
              obtain ⟨x0, x1, _⟩ := HHd.bx.st2
              clear his HHc HHd
              go_wp2
              exact ⟨⟨j + 1, Lb, Db, turn + 1, _, _, mpPuts m l, _, _, by omega, rfl, Lib.hid hR2⟩, by simp only [intOf]; omega⟩
            · have hlo := a7
              have hcr := a8
              have hmn : ((min keep.length j : Nat) : Int) = min (keep.length : Int) (j : Int) := by omega
              rw [hmn] at hsl
              go_wp2_with (first | (go_at_call 14; refine (err_spec _ _).mono ?_; rintro e w40 ⟨rfl, rfl⟩) | fail)
              refine (ints_spec (Hbd.out.same hHg.same) hdl).mono ?_
              rintro e wa ⟨va, rfl, hrowa, ka⟩
              have hDa := hDg.same ka
              have hSa := hSg.same ka
              have hcs := crash_own hDa hlo hrowa (by simp [intsF]) hdl (fun k hk => hDg.fp_lt hk)
              have HHa := hHg.then_same ka
              rw [hdg] at hcs
              clear hrowa hHg hsl hmn
              go_wp2_with fail
              refine hcs.mono ?_
              rintro e wb ⟨rfl, Lb, hDb, kb, hdb, _, hfb⟩
              have HHb := HHa.chg (kb.mono (fun _ _ h => .inr h)) hfb (Blk.awayOf HHa.bq hDa hSa) (Blk.awayOf HHa.bx hDa hSa)
              obtain ⟨hgb, hlb, hub⟩ := hcr (intsF (keep.drop (min keep.length j)))
              clear hcs hDa hSa HHa kb hfb ka
              generalize Dg.crash (intsF (keep.drop (min keep.length j))) = Db at *
              have hop := open_live hDb hgb
              rw [hdb, hdg] at hop
              go_wp2_with fail
              refine hop.mono ?_
              rintro e wc ⟨t, rfl, hLt, ht, kc⟩
              have HHc := HHb.then_same kc
              have hDc := hDb.same kc
              have hdc : Lb.d = L.d := hdb.trans hdg
              obtain ⟨x0, x1, _⟩ := HHc.bx.st2
              have his := is_spec hLt HHc.n (by omega)
              clear HHb hop kc
              by_cases heq : m = mpPuts m l
              · rw [decide_eq_true heq] at his
                have hgb2 : DGood Db turn idx tab (mpPuts m l) := heq ▸ hgb
                clear heq
                go_wp2_with (first | (go_at_call 14; refine (err_spec _ _).mono ?_; rintro e w40 ⟨rfl, rfl⟩) | fail)
                refine his.mono ?_
                rintro e w41 ⟨rfl, k41⟩
                have HHd := HHc.then_same k41
                have hR2 := HHd.put (j := j + 1) (n := 600) hdc (hDc.same k41) hgb2 hub (by omega) (by omega) hq
                obtain ⟨r0, r1, r2, r3, r4, r5⟩ := HHd.bq.st2
                obtain ⟨x0, x1, _⟩ := HHd.bx.st2
                clear his HHc HHd
                go_wp2
                exact ⟨⟨j + 1, Lb, Db, turn, _, _, mpPuts m l, _, _, by omega, rfl, Lib.hid hR2⟩, by simp only [intOf]; omega⟩
              · rw [decide_eq_false heq] at his
                clear heq
                go_wp2_with (first | (go_at_call 14; refine (err_spec _ _).mono ?_; rintro e w40 ⟨rfl, rfl⟩) | fail)
                refine his.mono ?_
                rintro e w41 ⟨rfl, k41⟩
                have HHd := HHc.then_same k41
                have hDd := hDc.same k41
                have his2 := is_spec (hLt.same k41) HHd.m (by omega)
                rw [decide_eq_true rfl] at his2
                obtain ⟨y0, y1, _⟩ := HHd.bq.st2
                clear his x0 x1
                go_wp2_with fail
                refine his2.mono ?_
                rintro e w42 ⟨rfl, k42⟩
                have HHe := HHd.then_same k42
                have hR2 := HHe.keep (j := j + 1) (n := 600) hdc (hDd.same k42) hgb hub (by omega) (by omega)
                clear his2 HHc HHd HHe y0 y1
                go_wp2
                exact ⟨⟨j + 1, Lb, Db, turn, _, _, m, _, _, by omega, rfl, Lib.hid hR2⟩, by simp only [intOf]; omega⟩
          · obtain ⟨Af, cf, rfl, hrf⟩ := hfs.same hH.same
            have hjf' : ¬ ((j : Int) < (fuses.length : Int)) := by omega
            have hHf := hH
            have hLf := hL9
            have hlenf := hlen
            clear hrf hH hL9
            have hc := commit_live hLf hHf.p (by omega) (fun p hp => by have := hall p hp; omega) (by omega)
            obtain ⟨Ak, ck, hvk, hk1, hk2, hk3⟩ := hk.same hHf.same
            have hkc : BytesC w v2 keep := hk
            go_wp2_with fail
            refine hc.mono ?_
            rintro e wg ⟨Lg, Dg, cg, rfl, hdg, _, hfg, kg, hE⟩
            have hHg := hHf.chg kg hfg (Blk.awayOf hHf.bq hLf.disk hLf.store) (Blk.awayOf hHf.bx hLf.disk hLf.store)
            obtain ⟨vd, hsl, hbd⟩ := bytes_drop hk (min keep.length j) (Nat.min_le_left _ _)
            have hdl : (keep.drop (min keep.length j)).length ≤ 1048576 := by rw [List.length_drop]; omega
            have Hbd := Lib.hid hbd
            subst hvk
            clear hc kg hfg hHf hbd hk1 hk2 hk3
            rcases hE with ⟨a1, _⟩ | ⟨_, _, a3, _⟩ | ⟨_, rfl, idx2, tab2, hLg, a5, a6⟩ | ⟨_, rfl, hSg, hDg, a5, a6, a7, a8⟩
            · rw [hmay] at a1; cases a1
            · rw [hlenf] at a3; exact absurd a3 hfl
            · have hSg := hLg.store
              have hDg := hLg.disk
              have hlo : Dg.loose.length ≤ 65536 := by rw [hLg.dg.loose]; simp
              have hcr := hLg.dg.crash0
              have hlg : Dg.firm.length = 600 := a5.trans hlenf
              have hmn : ((min keep.length j : Nat) : Int) = min (keep.length : Int) (j : Int) := by omega
              rw [hmn] at hsl
              go_wp2_with (first | (go_at_call 14; refine (err_spec _ _).mono ?_; rintro e w40 ⟨rfl, rfl⟩) | fail)
              refine (ints_spec (Hbd.out.same hHg.same) hdl).mono ?_
              rintro e wa ⟨va, rfl, hrowa, ka⟩
              have hDa := hDg.same ka
              have hSa := hSg.same ka
              have hcs := crash_own hDa hlo hrowa (by simp [intsF]) hdl (fun k hk => hDg.fp_lt hk)
              have HHa := hHg.then_same ka
              rw [hdg] at hcs
              clear hrowa hHg hsl hmn
              go_wp2_with fail
              refine hcs.mono ?_
              rintro e wb ⟨rfl, Lb, hDb, kb, hdb, _, hfb⟩
              have HHb := HHa.chg (kb.mono (fun _ _ h => .inr h)) hfb (Blk.awayOf HHa.bq hDa hSa) (Blk.awayOf HHa.bx hDa hSa)
              obtain ⟨hgb, hlb, hub⟩ := hcr (intsF (keep.drop (min keep.length j)))
              clear hcs hDa hSa HHa kb hfb ka
              generalize Dg.crash (intsF (keep.drop (min keep.length j))) = Db at *
              have hop := open_live hDb hgb
              rw [hdb, hdg] at hop
              go_wp2_with fail
              refine hop.mono ?_
              rintro e wc ⟨t, rfl, hLt, ht, kc⟩
              have HHc := HHb.then_same kc
              have hDc := hDb.same kc
              have hdc : Lb.d = L.d := hdb.trans hdg
              obtain ⟨x0, x1, _⟩ := HHc.bx.st2
              have his := is_spec hLt HHc.n (by omega)
              clear HHb hop kc
              rw [decide_eq_true rfl] at his
              go_wp2_with (first | (go_at_call 14; refine (err_spec _ _).mono ?_; rintro e w40 ⟨rfl, rfl⟩) | fail)
              refine his.mono ?_
              rintro e w41 ⟨rfl, k41⟩
              have HHd := HHc.then_same k41
              have hR2 := HHd.put (j := j + 1) (n := 600) hdc (hDc.same k41) hgb hub (by omega) (by omega) hq
              obtain ⟨r0, r1, r2, r3, r4, r5⟩ := HHd.bq.st2
              obtain ⟨x0, x1, _⟩ := HHd.bx.st2
              clear his HHc HHd
              go_wp2
              exact ⟨⟨j + 1, Lb, Db, turn + 1, _, _, mpPuts m l, _, _, by omega, rfl, Lib.hid hR2⟩, by simp only [intOf]; omega⟩
            · have hlo := a7
              have hcr := a8
              have hmn : ((min keep.length j : Nat) : Int) = min (keep.length : Int) (j : Int) := by omega
              rw [hmn] at hsl
              go_wp2_with (first | (go_at_call 14; refine (err_spec _ _).mono ?_; rintro e w40 ⟨rfl, rfl⟩) | fail)
              refine (ints_spec (Hbd.out.same hHg.same) hdl).mono ?_
              rintro e wa ⟨va, rfl, hrowa, ka⟩
              have hDa := hDg.same ka
              have hSa := hSg.same ka
              have hcs := crash_own hDa hlo hrowa (by simp [intsF]) hdl (fun k hk => hDg.fp_lt hk)
              have HHa := hHg.then_same ka
              rw [hdg] at hcs
              clear hrowa hHg hsl hmn
              go_wp2_with fail
              refine hcs.mono ?_
              rintro e wb ⟨rfl, Lb, hDb, kb, hdb, _, hfb⟩
              have HHb := HHa.chg (kb.mono (fun _ _ h => .inr h)) hfb (Blk.awayOf HHa.bq hDa hSa) (Blk.awayOf HHa.bx hDa hSa)
              obtain ⟨hgb, hlb, hub⟩ := hcr (intsF (keep.drop (min keep.length j)))
              clear hcs hDa hSa HHa kb hfb ka
              generalize Dg.crash (intsF (keep.drop (min keep.length j))) = Db at *
              have hop := open_live hDb hgb
              rw [hdb, hdg] at hop
              go_wp2_with fail
              refine hop.mono ?_
              rintro e wc ⟨t, rfl, hLt, ht, kc⟩
              have HHc := HHb.then_same kc
              have hDc := hDb.same kc
              have hdc : Lb.d = L.d := hdb.trans hdg
              obtain ⟨x0, x1, _⟩ := HHc.bx.st2
              have his := is_spec hLt HHc.n (by omega)
              clear HHb hop kc
              by_cases heq : m = mpPuts m l
              · rw [decide_eq_true heq] at his
                have hgb2 : DGood Db turn idx tab (mpPuts m l) := heq ▸ hgb
                clear heq
                go_wp2_with (first | (go_at_call 14; refine (err_spec _ _).mono ?_; rintro e w40 ⟨rfl, rfl⟩) | fail)
                refine his.mono ?_
                rintro e w41 ⟨rfl, k41⟩
                have HHd := HHc.then_same k41
                have hR2 := HHd.put (j := j + 1) (n := 600) hdc (hDc.same k41) hgb2 hub (by omega) (by omega) hq
                obtain ⟨r0, r1, r2, r3, r4, r5⟩ := HHd.bq.st2
                obtain ⟨x0, x1, _⟩ := HHd.bx.st2
                clear his HHc HHd
                go_wp2
                exact ⟨⟨j + 1, Lb, Db, turn, _, _, mpPuts m l, _, _, by omega, rfl, Lib.hid hR2⟩, by simp only [intOf]; omega⟩
              · rw [decide_eq_false heq] at his
                clear heq
                go_wp2_with (first | (go_at_call 14; refine (err_spec _ _).mono ?_; rintro e w40 ⟨rfl, rfl⟩) | fail)
                refine his.mono ?_
                rintro e w41 ⟨rfl, k41⟩
                have HHd := HHc.then_same k41
                have hDd := hDc.same k41
                have his2 := is_spec (hLt.same k41) HHd.m (by omega)
                rw [decide_eq_true rfl] at his2
                obtain ⟨y0, y1, _⟩ := HHd.bq.st2
                clear his x0 x1
                go_wp2_with fail
                refine his2.mono ?_
                rintro e w42 ⟨rfl, k42⟩
                have HHe := HHd.then_same k42
                have hR2 := HHe.keep (j := j + 1) (n := 600) hdc (hDd.same k42) hgb hub (by omega) (by omega)
                clear his2 HHc HHd HHe y0 y1
                go_wp2
                exact ⟨⟨j + 1, Lb, Db, turn, _, _, m, _, _, by omega, rfl, Lib.hid hR2⟩, by simp only [intOf]; omega⟩
      · have hj2 : j = ls.length := by omega
        have hkk := hR0.same
        go_wp2_with (first
          | (go_at_call 12; refine (awake_spec _).mono ?_; rintro e w9 ⟨rfl, k9⟩))
        go_ret
        exact ⟨rfl, hkk.trans k9⟩
end Go.Proofs.Obj

namespace Go.Proofs.YtiiinmleiigckaaGreatDoor
open Go.ChangeShapes Go.WideShapes Go.ChangeAt Go.RowKit Go.Proofs.Obj

set_option maxRecDepth 100000 in
/-- WHAT THE WALK GIVES, FOR EVERY ARGUMENT. -/
theorem objectsGoes_contract (H : Type) (enc : TypeId × Value → H) (W : World) (base : Nat) (args : Array Value) (ds gs : List (DataW H)) (before : List MemPlace)
    (hval : ∀ (j : Nat) t v, Tryz.f9.params[j]? = some t → args[j]? = some v → Value.okWide Tryz.prog W .any base t v)
    (hW : DataW.Whole enc Tryz.prog Tryz.f9.params.toList Rows.objectsGoesSpec.vars false W args.toList ds gs before)
    (hz : (DataW.weightsEach Tryz.prog (Tryz.f9.params.toList ++ (Rows.OpenSpec.upto Rows.objectsGoesSpec).bare.plain.varTypes Tryz.prog) (ds ++ gs)).all (· ≤ reachBytes) = true)
    (hk : Rows.uptoSmall H (ds ++ gs) = true) :
    Calls Tryz.prog 9 args W fun e W' => ∃ v, e = .returned v ∧ Rows.objectsGoesSpec.post enc Tryz.prog Tryz.f9 false true false false W args v W' := by
  have hW' := hW
  obtain ⟨p, q, hA0, hV, rfl, hfz, hnd⟩ := hW
  have hA : DataW.TrodAll enc Tryz.prog W 0 (fun _ => true) true Tryz.f9.params.toList args.toList ds p := hA0
  rw [Tryz.params9] at hA hval
  obtain ⟨v0, vs0, d0, ds0, p0, q0, hargs, rfl, rfl, h0, r0⟩ := trodAll_cons hA
  obtain ⟨v1, vs1, d1, ds1, p1, q1, rfl, rfl, rfl, h1, r1⟩ := trodAll_cons r0
  obtain ⟨v2, vs2, d2, ds2, p2, q2, rfl, rfl, rfl, h2, r2⟩ := trodAll_cons r1
  obtain ⟨rfl, rfl, rfl⟩ := trodAll_nil r2
  obtain rfl : args = #[v0, v1, v2] := by cases args; simp_all
  obtain ⟨rfl, rfl⟩ := trodVars_none hV
  obtain ⟨b0, len0, cap0, rfl⟩ := okWide_slice Tryz.underlying22 (hval 0 22 v0 rfl rfl)
  obtain ⟨b1, len1, cap1, rfl⟩ := okWide_slice Tryz.underlying38 (hval 1 38 v1 rfl rfl)
  obtain ⟨b2, len2, cap2, rfl⟩ := okWide_slice Tryz.underlying38 (hval 2 38 v2 rfl rfl)
  clear hA0
  obtain ⟨ls0, hls0, hll0⟩ := open_byteRows h0 (fun n hn => by
    have := List.all_eq_true.1 hz n (DataW.weights_mem_each (j := 0) (t := 22) (d := d0) rfl rfl n hn)
    simpa using this)
  obtain ⟨ls1, hls1, hll1, hlb1⟩ := open_bytesV h1 (fun n hn => by
    have := List.all_eq_true.1 hz n (DataW.weights_mem_each (j := 1) (t := 38) (d := d1) rfl rfl n hn)
    simpa using this)
  obtain ⟨ls2, hls2, hlb2⟩ := open_bytesC h2
  have hbb1 : ls1.length ≤ 1048576 := Nat.le_trans hlb1 (bulk_of hk (d := d1) (by simp))
  have hbb2 : ls2.length ≤ 1048576 := Nat.le_trans hlb2 (bulk_of hk (d := d2) (by simp))
  simp only [List.append_nil] at hW'
  refine (goes_walk hls0 hll0 hls1 hbb1 hls2 hbb2).mono fun e W' ⟨he, hg⟩ => ?_
  subst he
  have hB := Chg.same_below hg
  exact ⟨_, rfl, _, _, _, [], _, [], hW', trodAll_mk1 (shut_bool Tryz.underlying4 _), (trodAll_cons_mk (Below.trod laidOutT (by kernel_rfl) (of_decide_eq_true (by kernel_rfl)) h0 hB (fun x hx => hW'.lt x (by simp [hx]))) (trodAll_cons_mk (Below.trod laidOutT (by kernel_rfl) (of_decide_eq_true (by kernel_rfl)) h1 hB (fun x hx => hW'.lt x (by simp [hx]))) (trodAll_cons_mk (Below.trod laidOutT (by kernel_rfl) (of_decide_eq_true (by kernel_rfl)) h2 hB (fun x hx => hW'.lt x (by simp [hx]))) trodAll_mk0))), rfl, hB.frame _, fun h => by cases h⟩

abbrev objectsGoes_args : Array Value := #[.slice none 0 0, .slice none 0 0, .slice none 0 0]
theorem objectsGoes_laid (os : Os) : laidMet Tryz.prog Rows.objectsGoesUptoRow.laid ((laidWorld os).forCall (fun _ _ => 0) ⟨#[], objectsGoes_args, []⟩).memory :=
  laidMet_of_run' 8 (by kernel_rfl) (by kernel_rfl)
theorem objectsGoes_reads (os : Os) {H : Type} (enc : TypeId × Value → H) : ∃ places, DataW.whole enc Tryz.prog ((laidWorld os).forCall (fun _ _ => 0) ⟨#[], objectsGoes_args, []⟩).memory Tryz.f9.params.toList Rows.objectsGoesSpec.vars false objectsGoes_args.toList 8 = some ([.nil, .nil, .nil], [], places) :=
  ⟨[], by kernel_rfl⟩

set_option maxRecDepth 100000 in
theorem objectsGoes_lifted (os : Os) (started : os.Started) (H : Type) (enc : TypeId × Value → H) (F : Stop.Interp) :
    ReturnsInHanded {} Tryz.checked os 9 .any ((Rows.OpenSpec.upto Rows.objectsGoesSpec).preRow enc Tryz.prog Tryz.f9 Rows.objectsGoesUptoRow.domain false Rows.objectsGoesUptoRow.laid) (((Rows.OpenSpec.upto Rows.objectsGoesSpec).at F).post enc Tryz.prog Tryz.f9 false true false false) := by
  obtain ⟨places, hx⟩ := objectsGoes_reads os enc
  refine returnsInHanded_of_row (C := Tryz.checked) (s := Rows.OpenSpec.upto Rows.objectsGoesSpec) ownT started (by kernel_rfl) Tryz.func9
    (witness_row_at (enc := enc) (C := Tryz.checked) false (laidWorld os) objectsGoes_args rfl (by kernel_rfl) (by kernel_rfl) (by kernel_rfl)
      (OpenSpec.preRow_of_cond 8 hx (by kernel_rfl) (fun k hk => by cases hk; kernel_rfl) (by kernel_rfl) (objectsGoes_laid os))) ?_
  intro W base args ds gs before hval hW _ hcond hz _ _ _
  exact objectsGoes_contract H enc W base args ds gs before hval hW hz (hcond _ rfl)

theorem objectsGoes_said : Rows.ObjectsGoesUptoSaid :=
  OpenClaim.holds_of_cond 9 Tryz.f9 rfl rfl rfl rfl rfl rfl rfl ⟨rfl, rfl, rfl, rfl, rfl⟩ rfl rfl rfl rfl rfl (by kernel_rfl) Tryz.func9 (by kernel_rfl)
    (of_decide_eq_true (by kernel_rfl)) (by unfold Func.isWrapper; first | (rw [if_pos (by decide +kernel)]; kernel_rfl) | (rw [if_neg (by decide +kernel)]; exact ⟨rfl, rfl⟩))
    (fun os started H enc _ F => by rw [OpenClaim.pre_eq_preRow]; exact objectsGoes_lifted os started H enc F)

theorem objectsGoes_plain (f : FuncId) (fn : Func) (hf : Tryz.pinned.checked.prog.funcNamed "shelfmark/shelfmarklaw17.ObjectsGoes" = some f) (hfn : Tryz.pinned.checked.prog.funcs[f]? = some fn) :
    true = Tryz.pinned.checked.prog.looks [] ∧ ∀ (j : Nat) t, fn.params[j]? = some t → Tryz.pinned.checked.prog.wantsStandIn t = false := by
  obtain rfl : f = 9 := Option.some.inj ((show Tryz.prog.funcNamed "shelfmark/shelfmarklaw17.ObjectsGoes" = some 9 by kernel_rfl).symm.trans hf) |>.symm
  obtain rfl : fn = Tryz.f9 := (Option.some.inj (Tryz.func9.symm.trans hfn)).symm
  refine ⟨by kernel_rfl, fun j t ht => ?_⟩
  rw [Tryz.params9] at ht
  have ht2 := Array.mem_of_getElem? ht
  simp only [List.mem_toArray, List.mem_cons, List.not_mem_nil, or_false] at ht2
  rcases ht2 with rfl | rfl | rfl
  · exact (show Tryz.prog.wantsStandIn 22 = false by kernel_rfl)
  · exact (show Tryz.prog.wantsStandIn 38 = false by kernel_rfl)
  · exact (show Tryz.prog.wantsStandIn 38 = false by kernel_rfl)

/-- THE CARD. -/
theorem objectsGoes_card : Rows.ObjectsGoesUptoCardSaid :=
  Claim7.holds_tied_plain_at .later [] _ _ _ _ objectsGoes_said (fun _ h => by cases h) (by kernel_rfl) (fun _ h => by cases h) objectsGoesUpto_row_tie rfl ⟨rfl, rfl⟩ (by kernel_rfl) rfl objectsGoes_plain (by kernel_rfl)
#print axioms objectsGoes_card
end Go.Proofs.YtiiinmleiigckaaGreatDoor
