/- ObjectsDown holds: a store whose disk went down tells so, and has nothing, till it is opened anew; of one that there is not nothing is told. For every input; the card ties the two tables that the row lists. -/
import Derived.Test.YtiiinmleiigckaaGreatDoorGZB
import Derived.Test.YtiiinmleiigckaaGreatDoorGZC
import Derived.Test.YtiiinmleiigckaaGreatDoorCards
import Derived.Test.YtiiinmleiigckaaGreatDoorTie
import Derived.Deep.DeepHandedRow
import Derived.Lib.LaidTab
set_option linter.unusedVariables false
set_option linter.unusedSimpArgs false

namespace Go.Proofs.Obj
open Go Go.RowKit Go.Shelf

theorem Round.puts {w0 wr : World} {d q n j : Nat} {L : DL} {D : Dk} {s turn : Nat} {idx : List Nat} {tab : Tab} {m : MpL} {v1 v2 vi : Value} {ns : List UInt8} (hR : Round w0 d q n j wr L D s turn idx tab m v1 v2) (hbs : BytesAt wr vi ns) (hbl : ns.length ≤ 140737488355328) (W : World) (k : Same wr W) :
    Calls Tryz.prog 16 #[vi] W fun e w' => ∃ v' l, e = .returned v' ∧ PutsAt w' v' l ∧ RowFrom (Away w' L s) v' ∧ l.length ≤ 4 ∧ (∀ p ∈ l, p.key.length ≤ 300 ∧ p.blob.length ≤ 131072) ∧ Same W w' := by
  refine (puts_spec (hbs.same k) hbl).mono ?_
  rintro e w' ⟨v', l, h1, h2, h3, h4, h5, h6, h7⟩
  refine ⟨v', l, h1, h2, h3.mono (fun b hb => ⟨hb.2, fun e => ?_, fun e => ?_⟩), h4, fun p hp => (h6 p hp).1, h7⟩
  · have := hR.live.s_lt; have := k.size; omega
  · have := hR.live.disk.fp_lt e; have := k.size; omega

/-- A fuse in a disk in peace. -/
theorem DGood.setFuse {D : Dk} {turn : Nat} {idx : List Nat} {tab : Tab} {m : MpL} (h : DGood D turn idx tab m) (n : Int) : DGood (D.setFuse n) turn idx tab m :=
  ⟨h.up, h.loose, by show -1 ≤ max (-1) n; omega, h.good, h.small, h.blobs⟩
theorem StoreAt.chgD {w w' : World} {L : DL} {D : Dk} {s d : Nat} {turn : Int} {idx : List Nat} {tab : Tab} {down : Bool} (h : StoreAt w s d turn idx tab down) (hD : DiskAt w L D) (k : Chg L.fp w w') : StoreAt w' s d turn idx tab down := by
  refine h.chg k ?_ (fun b l hm e => hD.fp_map hm e rfl) (fun b c hb e => hD.ne_of hb (by decide) (by decide) (by decide) e)
  obtain ⟨_, _, _, hsb, _⟩ := h
  exact fun e => hD.ne_of hsb (by decide) (by decide) (by decide) e
theorem fuse_live {w : World} {L : DL} {s : Nat} {D : Dk} {turn : Nat} {idx : List Nat} {tab : Tab} {m : MpL} (h : LiveM w L s D turn idx tab m) (n : Nat) (hn : n ≤ 4294967296) :
    Calls Tryz.prog 28 #[.pointer (some ⟨L.d, 0, none⟩), .int .i64 n] w fun e w' => e = .returned (.tuple #[]) ∧ Chg L.fp w w' ∧ LiveM w' L s (D.setFuse n) turn idx tab m := by
  refine (fuse_spec h.disk (n : Int) (by omega) (by omega)).mono ?_
  rintro e w' ⟨rfl, k, hD⟩
  have k' : Chg L.fp w w' := k.mono (fun j _ e => .inl e)
  exact ⟨rfl, k', hD, h.dg.setFuse n, h.store.chgD h.disk k'⟩
/-- A disk that bears a map, in peace, is as good behind a crash. -/
theorem DGood.crash0 {D : Dk} {turn : Nat} {idx : List Nat} {tab : Tab} {m : MpL} (h : DGood D turn idx tab m) (keep : List Int) : DGood (D.crash keep) turn idx tab m ∧ (D.crash keep).firm.length = D.firm.length ∧ (D.crash keep).fuse = -1 :=
  h.crash (W := []) (fun x hx => by simp at hx) (.inl ⟨rfl, 0, by simp [h.loose]⟩) keep

/-- Of a store that is down nothing is told. -/
theorem keysDown {w : World} {s d : Nat} {turn : Int} {idx : List Nat} {tab : Tab} (h : StoreAt w s d turn idx tab true) :
    Calls Tryz.prog 23 #[.pointer (some ⟨s, 0, none⟩)] w fun e w' => e = .returned (.slice none 0 0) ∧ Same w w' := by
  obtain ⟨mb, iv, kv, hsb, _⟩ := h
  exact keys_down hsb
/-- A crash, what stays given by a row of the call's own. -/
theorem crash_own {w : World} {L : DL} {D : Dk} (hD : DiskAt w L D) (hl : D.loose.length ≤ 65536) {base n : Nat} {v : Value} {xs : List Int} (hrow : w.ownsRow base 3 1 v n (xs.map (.int .i64))) (hn : n = xs.length) (hm : n ≤ 1048576) (hb : ∀ k, L.fp k → k < base) :
    Calls Tryz.prog 29 #[.pointer (some ⟨L.d, 0, none⟩), v] w (DPost w L (D.crash xs) (.tuple #[])) := by
  obtain ⟨A, c, rfl, hA⟩ := own_from hrow
  subst hn
  have hr : Rd w A (Obj.ints xs) := by
    rcases hrow.2 with ⟨he, h0⟩ | ⟨g, cap, cur, he, _⟩
    · left; rw [List.eq_nil_of_length_eq_zero h0]; rfl
    · cases he; exact .inr ⟨g, 0, rfl, own_rd hrow⟩
  exact crash_spec hD hl hr (by omega) (fun a ha e => by have := (hA a ha).1; have := hb _ e; omega)

/-- What a law holds beside a store that is written. -/
structure Held (w0 : World) (q x : Nat) (W : World) (L : DL) (s : Nat) (vp u1 u2 y1 y2 : Value) (l : List PutM) (m n : MpL) : Prop where
  p : PutsAt W vp l
  pf : RowFrom (Away W L s) vp
  m : MapV W (.agg #[u1, u2]) m
  mf : AggFrom (Away W L s) (.agg #[u1, u2])
  n : MapV W (.agg #[y1, y2]) n
  nf : AggFrom (Away W L s) (.agg #[y1, y2])
  bq : Blk W q 32 [u1, u2]
  bx : Blk W x 32 [y1, y2]
  fp : ∀ k, L.fp k → w0.heap.size ≤ k
  hs : w0.heap.size ≤ s
  same : Same w0 W
section
variable {w0 W W' : World} {q x : Nat} {L L' : DL} {s : Nat} {vp u1 u2 y1 y2 : Value} {l : List PutM} {m n : MpL}
theorem Held.chg (h : Held w0 q x W L s vp u1 u2 y1 y2 l m n) (k : Chg (fun k => k = s ∨ L.fp k) W W') (hf : ∀ k, L'.fp k → L.fp k ∨ W.heap.size ≤ k) (hq : ¬ (q = s ∨ L.fp q)) (hx : ¬ (x = s ∨ L.fp x)) : Held w0 q x W' L' s vp u1 u2 y1 y2 l m n := by
  have hn : ∀ b, Away W L s b → ¬ (b = s ∨ L.fp b) := fun b hb e => e.elim hb.2.1 hb.2.2
  have hz := h.same.size
  refine ⟨h.p.chg h.pf k hn, h.pf.mono (Away.next k.size hf), h.m.chg h.mf k hn, h.mf.mono (Away.next k.size hf), h.n.chg h.nf k hn, h.nf.mono (Away.next k.size hf), h.bq.chg k hq, h.bx.chg k hx, fun j hj => (hf j hj).elim (h.fp j) (fun e => by omega), h.hs, ?_⟩
  exact h.same.trans' k (fun _ _ h => h) (fun j hj e => e.elim (fun e => by have := h.hs; omega) (fun e => by have := h.fp j e; omega))
theorem Held.then_same (h : Held w0 q x W L s vp u1 u2 y1 y2 l m n) (k : Same W W') : Held w0 q x W' L s vp u1 u2 y1 y2 l m n :=
  ⟨h.p.same k, h.pf.mono (Away.same k), h.m.same k, h.mf.mono (Away.same k), h.n.same k, h.nf.mono (Away.same k), h.bq.same k, h.bx.same k, h.fp, h.hs, h.same.trans k⟩
theorem Blk.awayOf {c : List Value} {d : Nat} {turn : Int} {idx : List Nat} {tab : Tab} {down : Bool} {D : Dk} (hb : Blk W q 32 c) (hD : DiskAt W L D) (hS : StoreAt W s d turn idx tab down) : ¬ (q = s ∨ L.fp q) := fun e => e.elim (fun e => by
  obtain ⟨_, _, _, hsb, _⟩ := hS
  exact Blk.type_ne hsb hb (by decide) e.symm) (hD.ne_of hb (by decide) (by decide) (by decide))
end
end Go.Proofs.Obj

namespace Go.Proofs.Obj
open Go Go.RowKit Go.Shelf

/-- With no write left nothing is carried. -/
theorem carry_fuse0 {D : Dk} (hd : D.down = false) (hf : D.fuse = 0) (W : List (Nat × ByteArray)) (i : Nat) (h : ByteArray) : (carryF D W i h).2 ≠ 0 := by
  have hw : ∀ (D : Dk) (j : Nat) (s : ByteArray), D.down = false → D.fuse = 0 → (D.write j s).2 ≠ 0 := by
    intro D j s hd hf
    unfold Dk.write
    rw [if_neg (by rw [hd]; simp)]
    split
    · simp
    · first | (rw [if_pos hf]; simp) | simp
  unfold carryF
  cases W with
  | nil =>
    have e : D.flush = ({ D with firm := laidDown D.firm D.loose, loose := [] }, 0) := by unfold Dk.flush; rw [if_neg (by rw [hd]; simp)]
    have e0 : D.writes [] = (D, 0) := rfl
    have := hw { D with firm := laidDown D.firm D.loose, loose := [] } i h hd hf
    simp only [e0, e, if_true, if_neg this]
    exact this
  | cons x W =>
    have := hw D x.1 x.2 hd hf
    rw [Dk.writes, if_neg this, if_neg this]
    exact this

/-- A commit on a disk that bears no write. -/
theorem commit_dead {w : World} {s turn : Nat} {idx : List Nat} {tab : Tab} {L : DL} {D : Dk} {m : MpL} {v : Value} {l : List PutM} (h : LiveM w L s D turn idx tab m) (hv : PutsAt w v l) (hll : l.length ≤ 64) (hm : mayF l = true) (hf0 : D.fuse = 0) (hr : 3 * (needOf m + needOf (mpPuts m l)) + 40 ≤ D.firm.length) (ht : turn + 1 < 1000000) :
    Calls Tryz.prog 21 #[.pointer (some ⟨s, 0, none⟩), v] w fun e w' => ∃ (L' : DL) (D' : Dk), e = .returned (.int .i64 7) ∧ L'.d = L.d ∧ L'.fb = L.fb ∧ (∀ k, L'.fp k → L.fp k ∨ w.heap.size ≤ k) ∧ Chg (fun k => k = s ∨ L.fp k) w w' ∧
      StoreAt w' s L.d turn idx tab true ∧ DiskAt w' L' D' ∧ D'.down = true ∧ D'.loose.length ≤ 65536 ∧ ∀ keep, DGood (D'.crash keep) turn idx tab m ∧ (D'.crash keep).firm.length = D.firm.length ∧ (D'.crash keep).fuse = -1 := by
  refine (commit_spec h.live hv hll (fun p hp => by have := mayF_all hm p hp; omega) ht).mono ?_
  rintro e w' ⟨L', D', c, rfl, hD, h1, h2, h3, h4, he⟩
  have hc0 : c ≠ 0 := by
    rcases he with ⟨a1, _⟩ | ⟨_, _, a3, _⟩ | ⟨_, pl, _, a3, _⟩
    · rw [hm] at a1; cases a1
    · omega
    · obtain ⟨_, rfl⟩ := Prod.mk.inj a3
      exact carry_fuse0 h.dg.up hf0 _ _ _
  rcases commit_ends h.dg ht he hD.fuse0 with ⟨a1, _⟩ | ⟨_, _, a3, _⟩ | ⟨_, a2, _⟩ | ⟨_, rfl, a3, a4, a5, a6, a7⟩
  · rw [hm] at a1; cases a1
  · omega
  · exact absurd a2 hc0
  · exact ⟨L', D', rfl, h1, h2, h3, h4, a3, hD, a5, a6, a7⟩

/-- A store that is down takes nothing. -/
theorem commit_off {w : World} {s d : Nat} {turn : Int} {idx : List Nat} {tab : Tab} {v : Value} (h : StoreAt w s d turn idx tab true) :
    Calls Tryz.prog 21 #[.pointer (some ⟨s, 0, none⟩), v] w fun e w' => e = .returned (.int .i64 7) ∧ Same w w' := by
  obtain ⟨mb, iv, kv, hsb, _⟩ := h
  have hg := gate_spec hsb
  simp only [if_true] at hg
  go_enter Tryz.func21, Tryz.ntmps21
  go_wp2_with (first | (go_at_call 43; refine hg.mono ?_; rintro e w1 ⟨rfl, rfl⟩))
  go_ret
  exact ⟨rfl, .refl _ _⟩
theorem get_off {w : World} {s d : Nat} {turn : Int} {idx : List Nat} {tab : Tab} (h : StoreAt w s d turn idx tab true) (key : List UInt8) (hk : key.length ≤ 4294967296) :
    Calls Tryz.prog 22 #[.pointer (some ⟨s, 0, none⟩), .string (S key)] w fun e w' => e = .returned (.tuple #[.string ⟨#[]⟩, .int .i64 7]) ∧ Same w w' := by
  have hf := find_spec h (S key) (by rw [S_size]; simp only [maxLen]; omega)
  unfold findF at hf
  rw [if_pos rfl] at hf
  exact get_none (S key) hf (by decide)
theorem where_off {w : World} {s d : Nat} {turn : Int} {idx : List Nat} {tab : Tab} (h : StoreAt w s d turn idx tab true) (key : List UInt8) (hk : key.length ≤ 4294967296) :
    Calls Tryz.prog 24 #[.pointer (some ⟨s, 0, none⟩), .string (S key)] w fun e w' => ∃ v', e = .returned (.tuple #[v', .int .i64 7]) ∧ Same w w' := by
  have hf := find_spec h (S key) (by rw [S_size]; simp only [maxLen]; omega)
  unfold findF at hf
  rw [if_pos rfl] at hf
  refine (where_spec (S key) hf (by simp)).mono ?_
  rintro e w' ⟨v', rfl, _, k⟩
  exact ⟨v', rfl, k⟩

/-- Of a store that there is not. -/
theorem commit_nil (w : World) (v : Value) : Calls Tryz.prog 21 #[.pointer none, v] w fun e w' => e = .returned (.int .i64 1) ∧ Same w w' := by
  have hg := gate_nil w
  go_enter Tryz.func21, Tryz.ntmps21
  go_wp2_with (first | (go_at_call 43; refine hg.mono ?_; rintro e w1 ⟨rfl, rfl⟩))
  go_ret
  exact ⟨rfl, .refl _ _⟩
theorem get_nil (w : World) (key : List UInt8) (hk : key.length ≤ 4294967296) : Calls Tryz.prog 22 #[.pointer none, .string (S key)] w fun e w' => e = .returned (.tuple #[.string ⟨#[]⟩, .int .i64 1]) ∧ Same w w' :=
  get_none (S key) (find_nil w (S key)) (by decide)

/-- Opening what there is not. -/
theorem open_nil (w : World) : Calls Tryz.prog 13 #[.pointer none] w fun e w' => e = .returned (.tuple #[.pointer none, .int .i64 1]) ∧ Same w w' := by
  go_enter Tryz.func13, Tryz.ntmps13
  go_wp2
  go_ret2
  exact ⟨rfl, .refl _ _⟩

set_option maxRecDepth 100000 in
set_option maxHeartbeats 1000000 in
/-- The head of a disk that is down. -/
theorem head_off {w : World} {s mb : Nat} {turn : Int} {iv : Value} {down : Bool} {L : DL} {D : Dk} (hs : SB w s L.d mb turn iv down) (hD : DiskAt w L D) (hl : D.loose.length ≤ 65536) (hdn : D.down = true) :
    Calls Tryz.prog 32 #[.pointer (some ⟨s, 0, none⟩)] w fun e w' => e = .returned (.tuple #[.agg #[.int .i64 0, .int .i64 0, .int .i64 0], .int .i64 7]) ∧ SB w' s L.d mb turn iv true ∧ Chg (fun k => k = s) w w' := by
  have hB := Blk.new w 75 [.int .i64 0, .int .i64 0, .int .i64 0]
  have hS : Same w (w.alloc (.cells [.int .i64 0, .int .i64 0, .int .i64 0].toArray 75)) := (Chg.refl _ w).alloc _
  go_enter Tryz.func32, Tryz.ntmps32
  go_wp2
  go_loopw [10] (fun i wr => i = .int .i64 0 ∧ wr = w.alloc (.cells #[.int .i64 0, .int .i64 0, .int .i64 0] 75)) (fun _ _ => 0)
  case atStart => exact ⟨rfl, rfl⟩
  case round =>
    obtain ⟨rfl, hwr⟩ := hrel
    have hB' : Blk wr w.heap.size 75 [.int .i64 0, .int .i64 0, .int .i64 0] := hwr ▸ hB
    have hS' : Same w wr := hwr ▸ hS
    clear hwr hB hS
    have hr := sread_down (Blk.same hs hS') (hD.same hS') hl hdn 0
    have hslt := Blk.lt hs
    go_wp2_with (first | (go_at_call 48; refine hr.mono ?_; rintro e w2 ⟨rfl, hs2, k2⟩; have hB2 := hB'.chg k2 (by omega); obtain ⟨e0, e1, e2, f0, f1, f2, g1, g2⟩ := hB2.st3))
    have hf := hB2.put3 (.int .i64 0) (.int .i64 0) (.int .i64 0)
    have kp := Chg.put3 w2 w.heap.size (.int .i64 0) (.int .i64 0) (.int .i64 0)
    have hsf : SB (((w2.setCell ⟨w.heap.size, 0, none⟩ (.int .i64 0)).setCell ⟨w.heap.size, 1, none⟩ (.int .i64 0)).setCell ⟨w.heap.size, 2, none⟩ (.int .i64 0)) s L.d mb turn iv true := Blk.chg hs2 kp (by omega)
    refine bodyPost_ret_by (results_row_tmp rfl _ _ w.heap.size 75 [_, _, _] _ rfl hf Tryz.underlying75 rfl (by kernel_rfl)) rfl ?_
    exact ⟨rfl, hsf, (Chg.after_same hS' k2).trans' kp (fun _ _ h => h) (fun j hj e => by omega)⟩

set_option maxRecDepth 100000 in
set_option maxHeartbeats 1000000 in
/-- Opening a disk that is down. -/
theorem open_off {w : World} {L : DL} {D : Dk} (hD : DiskAt w L D) (hl : D.loose.length ≤ 65536) (hdn : D.down = true) :
    Calls Tryz.prog 13 #[.pointer (some ⟨L.d, 0, none⟩)] w fun e w' => e = .returned (.tuple #[.pointer none, .int .i64 7]) ∧ Same w w' := by
  have hmk := @run_makeMap Tryz.prog
  have hsm : (w.alloc (.map #[] 0)).heap.size = w.heap.size + 1 := by simp
  have hs0 : SB ((w.alloc (.map #[] 0)).alloc (.cells #[.pointer (some ⟨L.d, 0, none⟩), .map (some w.heap.size), .int .i64 0, .slice none 0 0, .bool false] 73)) (w.heap.size + 1) L.d w.heap.size 0 (.slice none 0 0) false := by
    have := Blk.new (w.alloc (.map #[] 0)) 73 [.pointer (some ⟨L.d, 0, none⟩), .map (some w.heap.size), .int .i64 0, .slice none 0 0, .bool false]
    rwa [hsm] at this
  have hS0 : Same w ((w.alloc (.map #[] 0)).alloc (.cells #[.pointer (some ⟨L.d, 0, none⟩), .map (some w.heap.size), .int .i64 0, .slice none 0 0, .bool false] 73)) := ((Chg.refl _ w).alloc _).alloc _
  have hh := head_off hs0 (hD.same hS0) hl hdn
  go_enter Tryz.func13, Tryz.ntmps13
  go_wp2_with (first | (go_at_call 32; refine hh.mono ?_; rintro e w1 ⟨rfl, hs1, k1⟩))
  go_ret2
  exact ⟨rfl, (hS0.trans' k1 (U := fun _ => False) (fun _ _ h => h) (fun j hj e => by omega)).alloc _⟩
end Go.Proofs.Obj

namespace Go.Proofs.Obj
open Go Go.RowKit Go.Shelf

theorem zz_may : mayF [⟨[122], [122], false⟩] = true := rfl
theorem zz_need : 3 * (needOf [] + needOf (mpPuts [] [⟨[122], [122], false⟩])) + 40 ≤ (Dk.setFuse ⟨List.replicate 600 zero64, [], false, -1⟩ 0).firm.length := by
  show _ ≤ (List.replicate 600 zero64).length
  rw [List.length_replicate]; decide

set_option maxRecDepth 100000 in
set_option maxHeartbeats 4000000 in
theorem down_walk {w : World} {v0 : Value} {ls : List UInt8} {fuse : Int} (h0 : BytesAt w v0 ls) (hl0 : ls.length ≤ 140737488355328) :
    Calls Tryz.prog 10 #[v0, .int .u8 fuse] w fun e w' => e = .returned (.bool true) ∧ Same w w' := by
  go_enter Tryz.func10, Tryz.ntmps10
  go_wp2_with fail
  refine (new_live 600 (by decide) (by decide)).mono ?_
  rintro e w1 ⟨L, rfl, k1, hfp, hD⟩
  go_wp2_with fail
  refine (open_live hD (new_good (by decide) (by decide))).mono ?_
  rintro e w2 ⟨s, rfl, hL, hs, k2⟩
  have hsw : w.heap.size ≤ s := Nat.le_trans k1.size hs
  go_wp2_with (first | (go_at_call 14; refine (err_spec _ _).mono ?_; rintro e w9 ⟨rfl, rfl⟩) | fail)
  refine (open_nil _).mono ?_
  rintro e w3 ⟨rfl, k3⟩
  have hL3 := hL.same k3
  have k03 := (k1.trans k2).trans k3
  have hf := fuse_live hL3 0 (by decide)
  rw [show ((0 : Nat) : Int) = 0 from rfl] at hf
  clear hD hL hs k1 k2 k3
  go_wp2_with fail
  refine hf.mono ?_
  rintro e w4 ⟨rfl, k4, hL4⟩
  have k04 : Same w w4 := k03.trans' k4 (fun _ _ h => h) (fun j hj e => by have := hfp j e; omega)
  have hc := commit_dead (hL4.same ((Chg.refl _ w4).alloc _)) (put_new w4 [122] [122] false) (by decide) zz_may rfl zz_need (by decide)
  clear hf k4 hL3 k03
  go_wp2_with fail
  refine hc.mono ?_
  rintro e w5 ⟨L5, D5, rfl, hd5, _, hf5, k5, hS5, hD5, hdn, hlo, hcr⟩
  have k05 : Same w w5 := (k04.alloc (.cells #[.string (S [122]), .string (S [122]), .bool false] 43)).trans' k5 (fun _ _ h => h) (fun j hj e => e.elim (fun e => by omega) (fun e => by have := hfp j e; omega))
  have hfp5 : ∀ k, L5.fp k → w.heap.size ≤ k := fun k hk => (hf5 k hk).elim (hfp k) (fun h => by have := k04.size; simp at h; omega)
  obtain ⟨hg6, _, _⟩ := hcr []
  clear hc k5 hL4 k04 hf5 hfp hcr
  go_wp2_with (first | (go_at_call 14; refine (err_spec _ _).mono ?_; rintro e w9 ⟨rfl, rfl⟩) | fail)
  refine (puts_spec (h0.same k05) hl0).mono ?_
  rintro e w6 ⟨vp, p, rfl, _, _, _, _, _, k6⟩
  have hS6 := hS5.same k6
  have hD6 := hD5.same k6
  have k06 := k05.trans k6
  clear hS5 hD5 k6 k05
  go_wp2_with fail
  refine (commit_off hS6).mono ?_
  rintro e w7 ⟨rfl, k7⟩
  have hS7 := hS6.same k7
  have hD7 := hD6.same k7
  have k07 := k06.trans k7
  clear hS6 hD6 k7 k06
  go_wp2_with fail
  refine (get_off hS7 [122] (by decide)).mono ?_
  rintro e w8 ⟨rfl, k8⟩
  have hS8 := hS7.same k8
  have hD8 := hD7.same k8
  have k08 := k07.trans k8
  clear hS7 hD7 k8 k07
  go_wp2_with fail
  refine (where_off hS8 [122] (by decide)).mono ?_
  rintro e w9 ⟨v9, rfl, k9⟩
  have hS9 := hS8.same k9
  have hD9 := hD8.same k9
  have k09 := k08.trans k9
  clear hS8 hD8 k9 k08
  go_wp2_with fail
  refine (keysDown hS9).mono ?_
  rintro e w10 ⟨rfl, k10⟩
  have hD10 := hD9.same k10
  have k010 := k09.trans k10
  have hoff := open_off hD10 hlo hdn
  rw [hd5] at hoff
  clear hS9 hD9 k10 k09
  go_wp2_with fail
  refine hoff.mono ?_
  rintro e w11 ⟨rfl, k11⟩
  have hD11 := hD10.same k11
  have k011 := k010.trans k11
  have hcs := crash_spec (A := none) (cap := 0) (xs := []) hD11 hlo (.inl rfl) (by simp) (fun a e => by cases e)
  rw [hd5] at hcs
  clear hoff hD10 k11 k010
  go_wp2_with fail
  refine hcs.mono ?_
  rintro e w12 ⟨rfl, L12, hD12, k12, hd12, _, hf12⟩
  have k012 : Same w w12 := k011.trans' k12 (fun _ _ h => h) (fun j hj e => by have := hfp5 j e; omega)
  have hop := open_live hD12 hg6
  rw [hd12, hd5] at hop
  clear hcs hD11 k12 k011
  go_wp2_with fail
  refine hop.mono ?_
  rintro e w13 ⟨t, rfl, hLt, ht, k13⟩
  have k013 := k012.trans k13
  clear hop hD12 k13 k012
  go_wp2_with fail
  refine (get_nil w13 [97] (by decide)).mono ?_
  rintro e w14 ⟨rfl, k14⟩
  have hL14 := hLt.same k14
  have k014 := k013.trans k14
  clear hLt k14 k013
  have hk1 := keys_live hL14
  go_wp2_with (first | (go_at_call 14; refine (err_spec _ _).mono ?_; rintro e w9 ⟨rfl, rfl⟩) | fail)
  refine hk1.mono ?_
  rintro e w15 ⟨v15, rfl, hrow15, k15⟩
  obtain ⟨A15, c15, rfl⟩ := own_form hrow15
  have hL15 := hL14.same k15
  have k015 := k014.trans k15
  clear hk1 hrow15 hL14 k15 k014
  go_wp2_with (first | (go_at_call 14; refine (err_spec _ _).mono ?_; rintro e w9 ⟨rfl, rfl⟩) | fail)
  refine (commit_nil _ _).mono ?_
  rintro e w16 ⟨rfl, k16⟩
  go_wp2_with (first | (go_at_call 14; refine (err_spec _ _).mono ?_; rintro e w9 ⟨rfl, rfl⟩) | fail)
  refine (keys_nil _).mono ?_
  rintro e w17 ⟨rfl, k17⟩
  have hL17 := (hL15.same k16).same k17
  have k017 := (k015.trans k16).trans k17
  have hk2 := keys_live hL17
  clear hL15 k16 k17 k015
  go_wp2_with fail
  refine hk2.mono ?_
  rintro e w18 ⟨v18, rfl, hrow18, k18⟩
  have k018 := k017.trans k18
  have hst := sameTexts_spec (TextsAt.of_own hrow18) (v2 := .slice none 0 0) (b := []) ⟨none, 0, rfl, .inl rfl⟩ (by simp) (by simp)
  rw [decide_eq_true (by rfl)] at hst
  clear hk2 hL17 k18 k017
  go_wp2_with fail
  refine hst.mono ?_
  rintro e w19 ⟨rfl, k19⟩
  go_wp2_with (first | (go_at_call 12; refine (awake_spec _).mono ?_; rintro e w20 ⟨rfl, k20⟩))
  go_ret
  exact ⟨rfl, (k018.trans k19).trans k20⟩
end Go.Proofs.Obj

namespace Go.Proofs.YtiiinmleiigckaaGreatDoor
open Go.ChangeShapes Go.WideShapes Go.ChangeAt Go.RowKit Go.Proofs.Obj

set_option maxRecDepth 100000 in
/-- WHAT THE WALK GIVES, FOR EVERY ARGUMENT. -/
theorem objectsDown_contract (H : Type) (enc : TypeId × Value → H) (W : World) (base : Nat) (args : Array Value) (ds gs : List (DataW H)) (before : List MemPlace)
    (hval : ∀ (j : Nat) t v, Tryz.f10.params[j]? = some t → args[j]? = some v → Value.okWide Tryz.prog W .any base t v)
    (hW : DataW.Whole enc Tryz.prog Tryz.f10.params.toList Rows.objectsDownSpec.vars false W args.toList ds gs before)
    (hz : (DataW.weightsEach Tryz.prog (Tryz.f10.params.toList ++ (OpenSpec.ofChange Rows.objectsDownSpec).bare.plain.varTypes Tryz.prog) (ds ++ gs)).all (· ≤ reachBytes) = true) :
    Calls Tryz.prog 10 args W fun e W' => ∃ v, e = .returned v ∧ Rows.objectsDownSpec.post enc Tryz.prog Tryz.f10 false true false false W args v W' := by
  have hW' := hW
  obtain ⟨p, q, hA0, hV, rfl, hfz, hnd⟩ := hW
  have hA : DataW.TrodAll enc Tryz.prog W 0 (fun _ => true) true Tryz.f10.params.toList args.toList ds p := hA0
  rw [Tryz.params10] at hA hval
  obtain ⟨v0, vs0, d0, ds0, p0, q0, hargs, rfl, rfl, h0, r0⟩ := trodAll_cons hA
  obtain ⟨v1, vs1, d1, ds1, p1, q1, rfl, rfl, rfl, h1, r1⟩ := trodAll_cons r0
  obtain ⟨rfl, rfl, rfl⟩ := trodAll_nil r1
  obtain rfl : args = #[v0, v1] := by cases args; simp_all
  obtain ⟨rfl, rfl⟩ := trodVars_none hV
  obtain ⟨b0, len0, cap0, rfl⟩ := okWide_slice Tryz.underlying38 (hval 0 38 v0 rfl rfl)
  obtain ⟨a1, rfl, rfl, rfl, w1⟩ := open_int Tryz.underlying5 (hval 1 5 v1 rfl rfl) h1
  clear hA0
  obtain ⟨ls0, hls0, hll0, hlb0⟩ := open_bytesV h0 (fun n hn => by
    have := List.all_eq_true.1 hz n (DataW.weights_mem_each (j := 0) (t := 38) (d := d0) rfl rfl n hn)
    simpa using this)
  obtain ⟨n1, rfl, hn1⟩ := open_u8 w1
  simp only [List.append_nil] at hW'
  refine (down_walk hls0 hll0).mono fun e W' ⟨he, hg⟩ => ?_
  subst he
  have hB := Chg.same_below hg
  exact ⟨_, rfl, _, _, _, [], _, [], hW', trodAll_mk1 (shut_bool Tryz.underlying4 _), (trodAll_cons_mk (Below.trod laidOutT (by kernel_rfl) (of_decide_eq_true (by kernel_rfl)) h0 hB (fun x hx => hW'.lt x (by simp [hx]))) (trodAll_cons_mk (shut_int Tryz.underlying5 w1) trodAll_mk0)), rfl, hB.frame _, fun h => by cases h⟩

abbrev objectsDown_args : Array Value := #[.slice none 0 0, .int .u8 0]
theorem objectsDown_laid (os : Os) : laidMet Tryz.prog Rows.objectsDownRow.laid ((laidWorld os).forCall (fun _ _ => 0) ⟨#[], objectsDown_args, []⟩).memory :=
  laidMet_of_run' 8 (by kernel_rfl) (by kernel_rfl)
theorem objectsDown_reads (os : Os) {H : Type} (enc : TypeId × Value → H) : ∃ places, DataW.whole enc Tryz.prog ((laidWorld os).forCall (fun _ _ => 0) ⟨#[], objectsDown_args, []⟩).memory Tryz.f10.params.toList Rows.objectsDownSpec.vars false objectsDown_args.toList 8 = some ([.nil, .lit (.int .u8 0)], [], places) :=
  ⟨[], by kernel_rfl⟩

set_option maxRecDepth 100000 in
theorem objectsDown_lifted (os : Os) (started : os.Started) (H : Type) (enc : TypeId × Value → H) (F : Stop.Interp) :
    ReturnsInHanded {} Tryz.checked os 10 .any ((OpenSpec.ofChange Rows.objectsDownSpec).preRow enc Tryz.prog Tryz.f10 Rows.objectsDownRow.domain false Rows.objectsDownRow.laid) (((OpenSpec.ofChange Rows.objectsDownSpec).at F).post enc Tryz.prog Tryz.f10 false true false false) := by
  obtain ⟨places, hx⟩ := objectsDown_reads os enc
  refine returnsInHanded_of_row (C := Tryz.checked) (s := OpenSpec.ofChange Rows.objectsDownSpec) ownT started (by kernel_rfl) Tryz.func10
    (witness_row_at (enc := enc) (C := Tryz.checked) false (laidWorld os) objectsDown_args rfl (by kernel_rfl) (by kernel_rfl) (by kernel_rfl)
      (OpenSpec.preRow_of_cond 8 hx (by kernel_rfl) (fun k hk => by cases hk) (by kernel_rfl) (objectsDown_laid os))) ?_
  intro W base args ds gs before hval hW _ hcond hz _ _ _
  exact objectsDown_contract H enc W base args ds gs before hval hW hz

theorem objectsDown_said : Rows.ObjectsDownSaid :=
  OpenClaim.holds_of_cond 10 Tryz.f10 rfl rfl rfl rfl rfl rfl rfl ⟨rfl, rfl, rfl, rfl, rfl⟩ rfl rfl rfl rfl rfl (by kernel_rfl) Tryz.func10 (by kernel_rfl)
    (of_decide_eq_true (by kernel_rfl)) (by unfold Func.isWrapper; first | (rw [if_pos (by decide +kernel)]; kernel_rfl) | (rw [if_neg (by decide +kernel)]; exact ⟨rfl, rfl⟩))
    (fun os started H enc _ F => by rw [OpenClaim.pre_eq_preRow]; exact objectsDown_lifted os started H enc F)

theorem objectsDown_plain (f : FuncId) (fn : Func) (hf : Tryz.pinned.checked.prog.funcNamed "shelfmark/shelfmarklaw17.ObjectsDown" = some f) (hfn : Tryz.pinned.checked.prog.funcs[f]? = some fn) :
    true = Tryz.pinned.checked.prog.looks [] ∧ ∀ (j : Nat) t, fn.params[j]? = some t → Tryz.pinned.checked.prog.wantsStandIn t = false := by
  obtain rfl : f = 10 := Option.some.inj ((show Tryz.prog.funcNamed "shelfmark/shelfmarklaw17.ObjectsDown" = some 10 by kernel_rfl).symm.trans hf) |>.symm
  obtain rfl : fn = Tryz.f10 := (Option.some.inj (Tryz.func10.symm.trans hfn)).symm
  refine ⟨by kernel_rfl, fun j t ht => ?_⟩
  rw [Tryz.params10] at ht
  have ht2 := Array.mem_of_getElem? ht
  simp only [List.mem_toArray, List.mem_cons, List.not_mem_nil, or_false] at ht2
  rcases ht2 with rfl | rfl
  · exact (show Tryz.prog.wantsStandIn 38 = false by kernel_rfl)
  · exact (show Tryz.prog.wantsStandIn 5 = false by kernel_rfl)

/-- THE CARD. -/
theorem objectsDown_card : Rows.ObjectsDownCardSaid :=
  Claim7.holds_tied_plain_at .later [] _ _ _ _ objectsDown_said (fun _ h => by cases h) (by kernel_rfl) (fun _ h => by cases h) objectsDown_row_tie rfl ⟨rfl, rfl⟩ (by kernel_rfl) rfl objectsDown_plain (by kernel_rfl)
#print axioms objectsDown_card
end Go.Proofs.YtiiinmleiigckaaGreatDoor
