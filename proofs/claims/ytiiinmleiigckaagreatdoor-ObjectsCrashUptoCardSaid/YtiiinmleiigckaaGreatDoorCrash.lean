/- ObjectsCrash holds: wherever the disk goes down in a commit, or in opening behind it, whatever loose writes stay: there is what there was ahead of it, or behind it; what an ended one did stays. Where what it reads is of bulk at most 1048576; the card ties the two tables that the row lists. -/
import Derived.Test.YtiiinmleiigckaaGreatDoorGZB
import Derived.Test.YtiiinmleiigckaaGreatDoorGZC
import Derived.Test.YtiiinmleiigckaaGreatDoorCards
import Derived.Test.YtiiinmleiigckaaGreatDoorTie
import Derived.Deep.DeepHandedRow
import Derived.Lib.LaidTab
set_option linter.unusedVariables false
set_option linter.unusedSimpArgs false

namespace Go.Proofs.Obj
open Go Go.RowKit Go.Shelf

theorem Round.puts {w0 wr : World} {d q n j : Nat} {L : DL} {D : Dk} {s turn : Nat} {idx : List Nat} {tab : Tab} {m : MpL} {v1 v2 vi : Value} {ns : List UInt8} (hR : Round w0 d q n j wr L D s turn idx tab m v1 v2) (hbs : BytesAt wr vi ns) (hbl : ns.length ≤ 140737488355328) (W : World) (k : Same wr W) :
    Calls Tryz.prog 16 #[vi] W fun e w' => ∃ v' l, e = .returned v' ∧ PutsAt w' v' l ∧ RowFrom (Away w' L s) v' ∧ l.length ≤ 4 ∧ (∀ p ∈ l, p.key.length ≤ 300 ∧ p.blob.length ≤ 131072) ∧ Same W w' := by
  refine (puts_spec (hbs.same k) hbl).mono ?_
  rintro e w' ⟨v', l, h1, h2, h3, h4, h5, h6, h7⟩
  refine ⟨v', l, h1, h2, h3.mono (fun b hb => ⟨hb.2, fun e => ?_, fun e => ?_⟩), h4, fun p hp => (h6 p hp).1, h7⟩
  · have := hR.live.s_lt; have := k.size; omega
  · have := hR.live.disk.fp_lt e; have := k.size; omega

/-- A fuse in a disk in peace. -/
theorem DGood.setFuse {D : Dk} {turn : Nat} {idx : List Nat} {tab : Tab} {m : MpL} (h : DGood D turn idx tab m) (n : Int) : DGood (D.setFuse n) turn idx tab m :=
  ⟨h.up, h.loose, by show -1 ≤ max (-1) n; omega, h.good, h.small, h.blobs⟩
theorem StoreAt.chgD {w w' : World} {L : DL} {D : Dk} {s d : Nat} {turn : Int} {idx : List Nat} {tab : Tab} {down : Bool} (h : StoreAt w s d turn idx tab down) (hD : DiskAt w L D) (k : Chg L.fp w w') : StoreAt w' s d turn idx tab down := by
  refine h.chg k ?_ (fun b l hm e => hD.fp_map hm e rfl) (fun b c hb e => hD.ne_of hb (by decide) (by decide) (by decide) e)
  obtain ⟨_, _, _, hsb, _⟩ := h
  exact fun e => hD.ne_of hsb (by decide) (by decide) (by decide) e
theorem fuse_live {w : World} {L : DL} {s : Nat} {D : Dk} {turn : Nat} {idx : List Nat} {tab : Tab} {m : MpL} (h : LiveM w L s D turn idx tab m) (n : Nat) (hn : n ≤ 4294967296) :
    Calls Tryz.prog 28 #[.pointer (some ⟨L.d, 0, none⟩), .int .i64 n] w fun e w' => e = .returned (.tuple #[]) ∧ Chg L.fp w w' ∧ LiveM w' L s (D.setFuse n) turn idx tab m := by
  refine (fuse_spec h.disk (n : Int) (by omega) (by omega)).mono ?_
  rintro e w' ⟨rfl, k, hD⟩
  have k' : Chg L.fp w w' := k.mono (fun j _ e => .inl e)
  exact ⟨rfl, k', hD, h.dg.setFuse n, h.store.chgD h.disk k'⟩
/-- A disk that bears a map, in peace, is as good behind a crash. -/
theorem DGood.crash0 {D : Dk} {turn : Nat} {idx : List Nat} {tab : Tab} {m : MpL} (h : DGood D turn idx tab m) (keep : List Int) : DGood (D.crash keep) turn idx tab m ∧ (D.crash keep).firm.length = D.firm.length ∧ (D.crash keep).fuse = -1 :=
  h.crash (W := []) (fun x hx => by simp at hx) (.inl ⟨rfl, 0, by simp [h.loose]⟩) keep

/-- Of a store that is down nothing is told. -/
theorem keysDown {w : World} {s d : Nat} {turn : Int} {idx : List Nat} {tab : Tab} (h : StoreAt w s d turn idx tab true) :
    Calls Tryz.prog 23 #[.pointer (some ⟨s, 0, none⟩)] w fun e w' => e = .returned (.slice none 0 0) ∧ Same w w' := by
  obtain ⟨mb, iv, kv, hsb, _⟩ := h
  exact keys_down hsb
/-- A crash, what stays given by a row of the call's own. -/
theorem crash_own {w : World} {L : DL} {D : Dk} (hD : DiskAt w L D) (hl : D.loose.length ≤ 65536) {base n : Nat} {v : Value} {xs : List Int} (hrow : w.ownsRow base 3 1 v n (xs.map (.int .i64))) (hn : n = xs.length) (hm : n ≤ 1048576) (hb : ∀ k, L.fp k → k < base) :
    Calls Tryz.prog 29 #[.pointer (some ⟨L.d, 0, none⟩), v] w (DPost w L (D.crash xs) (.tuple #[])) := by
  obtain ⟨A, c, rfl, hA⟩ := own_from hrow
  subst hn
  have hr : Rd w A (Obj.ints xs) := by
    rcases hrow.2 with ⟨he, h0⟩ | ⟨g, cap, cur, he, _⟩
    · left; rw [List.eq_nil_of_length_eq_zero h0]; rfl
    · cases he; exact .inr ⟨g, 0, rfl, own_rd hrow⟩
  exact crash_spec hD hl hr (by omega) (fun a ha e => by have := (hA a ha).1; have := hb _ e; omega)

/-- What a law holds beside a store that is written. -/
structure Held (w0 : World) (q x : Nat) (W : World) (L : DL) (s : Nat) (vp u1 u2 y1 y2 : Value) (l : List PutM) (m n : MpL) : Prop where
  p : PutsAt W vp l
  pf : RowFrom (Away W L s) vp
  m : MapV W (.agg #[u1, u2]) m
  mf : AggFrom (Away W L s) (.agg #[u1, u2])
  n : MapV W (.agg #[y1, y2]) n
  nf : AggFrom (Away W L s) (.agg #[y1, y2])
  bq : Blk W q 32 [u1, u2]
  bx : Blk W x 32 [y1, y2]
  fp : ∀ k, L.fp k → w0.heap.size ≤ k
  hs : w0.heap.size ≤ s
  same : Same w0 W
section
variable {w0 W W' : World} {q x : Nat} {L L' : DL} {s : Nat} {vp u1 u2 y1 y2 : Value} {l : List PutM} {m n : MpL}
theorem Held.chg (h : Held w0 q x W L s vp u1 u2 y1 y2 l m n) (k : Chg (fun k => k = s ∨ L.fp k) W W') (hf : ∀ k, L'.fp k → L.fp k ∨ W.heap.size ≤ k) (hq : ¬ (q = s ∨ L.fp q)) (hx : ¬ (x = s ∨ L.fp x)) : Held w0 q x W' L' s vp u1 u2 y1 y2 l m n := by
  have hn : ∀ b, Away W L s b → ¬ (b = s ∨ L.fp b) := fun b hb e => e.elim hb.2.1 hb.2.2
  have hz := h.same.size
  refine ⟨h.p.chg h.pf k hn, h.pf.mono (Away.next k.size hf), h.m.chg h.mf k hn, h.mf.mono (Away.next k.size hf), h.n.chg h.nf k hn, h.nf.mono (Away.next k.size hf), h.bq.chg k hq, h.bx.chg k hx, fun j hj => (hf j hj).elim (h.fp j) (fun e => by omega), h.hs, ?_⟩
  exact h.same.trans' k (fun _ _ h => h) (fun j hj e => e.elim (fun e => by have := h.hs; omega) (fun e => by have := h.fp j e; omega))
theorem Held.then_same (h : Held w0 q x W L s vp u1 u2 y1 y2 l m n) (k : Same W W') : Held w0 q x W' L s vp u1 u2 y1 y2 l m n :=
  ⟨h.p.same k, h.pf.mono (Away.same k), h.m.same k, h.mf.mono (Away.same k), h.n.same k, h.nf.mono (Away.same k), h.bq.same k, h.bx.same k, h.fp, h.hs, h.same.trans k⟩
theorem Blk.awayOf {c : List Value} {d : Nat} {turn : Int} {idx : List Nat} {tab : Tab} {down : Bool} {D : Dk} (hb : Blk W q 32 c) (hD : DiskAt W L D) (hS : StoreAt W s d turn idx tab down) : ¬ (q = s ∨ L.fp q) := fun e => e.elim (fun e => by
  obtain ⟨_, _, _, hsb, _⟩ := hS
  exact Blk.type_ne hsb hb (by decide) e.symm) (hD.ne_of hb (by decide) (by decide) (by decide))
end
end Go.Proofs.Obj

namespace Go.Proofs.Obj
open Go Go.RowKit Go.Shelf

set_option maxRecDepth 100000 in
set_option maxHeartbeats 4000000 in
theorem crash_walk {w : World} {v0 v2 v3 : Value} {ls : List (List UInt8)} {keep keep2 : List UInt8} {fuse fuse2 : Nat} {late : Bool} (hls : ByteRows w v0 ls) (hll : ls.length ≤ 140737488355328) (hfz : fuse < 256) (hk : BytesAt w v2 keep) (hkl : keep.length ≤ 1048576) (hk2 : BytesAt w v3 keep2) (hkl2 : keep2.length ≤ 1048576) (hfz2 : fuse2 < 256) :
    Calls Tryz.prog 8 #[v0, .int .u8 fuse, v2, v3, .int .u8 fuse2, .bool late] w fun e w' => e = .returned (.bool true) ∧ Same w w' := by
  obtain ⟨A, cap, rfl, hrow⟩ := hls
  have hgo : ((12 : Int) < (ls.length : Int)) ∨ ls.length = 0 ∨ (ls.length ≤ 12 ∧ 0 < ls.length) := by omega
  have Hrow := Lib.hid hrow
  clear hrow
  go_enter Tryz.func8, Tryz.ntmps8
  go_wp2_with fail
  refine (new_live 600 (by decide) (by decide)).mono ?_
  rintro e w1 ⟨L, rfl, k1, hfp, hD⟩
  rcases hgo with hgo | hgo | ⟨hgo, hgo0⟩
  · go_wp2_with (first
      | (go_at_call 14; refine (err_spec _ _).mono ?_; rintro e w9 ⟨rfl, rfl⟩)
      | (go_at_call 12; refine (awake_spec _).mono ?_; rintro e w2 ⟨rfl, k2⟩))
    go_ret
    exact ⟨rfl, k1.trans k2⟩
  · have hgo' : ¬ ((12 : Int) < (ls.length : Int)) := by omega
    have hz : ((ls.length : Int) == 0) = true := by simp [hgo]
    clear hgo
    go_wp2_with (first
      | (go_at_call 14; refine (err_spec _ _).mono ?_; rintro e w9 ⟨rfl, rfl⟩)
      | (go_at_call 12; refine (awake_spec _).mono ?_; rintro e w2 ⟨rfl, k2⟩))
    go_ret
    exact ⟨rfl, k1.trans k2⟩
  · have hgo' : ¬ ((12 : Int) < (ls.length : Int)) := by omega
    have hz : ((ls.length : Int) == 0) = false := by
      have : (ls.length : Int) ≠ 0 := by omega
      simpa using this
    have hop := open_live hD (new_good (n := 600) (by omega) (by omega))
    go_wp2_with (first
      | (go_at_call 13; refine hop.mono ?_; rintro e w2 ⟨s, rfl, hL, hs, k2⟩)
      | (go_at_call 14; refine (err_spec _ _).mono ?_; rintro e w3 ⟨rfl, rfl⟩))
    have k02 := k1.trans k2
    have kq : Same w2 (w2.alloc (.cells #[.slice none 0 0, .slice none 0 0] 32)) := (Chg.refl _ w2).alloc _
    have hR : Round w L.d w2.heap.size 600 0 (w2.alloc (.cells #[.slice none 0 0, .slice none 0 0] 32)) L ⟨List.replicate 600 zero64, [], false, -1⟩ s 0 [] [] [] (.slice none 0 0) (.slice none 0 0) :=
      ⟨rfl, hL.same kq, rfl, by simp, Nat.le_refl _, Blk.new w2 32 _, ⟨_, _, rfl, ⟨none, 0, rfl, .inl rfl⟩, ⟨none, 0, rfl, .inl rfl⟩⟩, ⟨none, 0, 0, none, 0, 0, rfl, fun _ e => (by cases e), fun _ e => (by cases e)⟩, Nat.le_trans k1.size hs, hfp, k02.trans kq⟩
    have hq : w.heap.size ≤ w2.heap.size := k02.size
    generalize w2.alloc (.cells #[.slice none 0 0, .slice none 0 0] 32) = w3 at *
    generalize w2.heap.size = q at *
    obtain ⟨d, hd⟩ : ∃ d, L.d = d := ⟨_, rfl⟩
    rw [hd] at hR
    rw [hd]
    clear hD hfp k1 hL hs k2 kq hop k02 hz
    go_loopw [18] (fun i wr => ∃ (j : Nat) (L : DL) (D : Dk) (turn : Nat) (idx : List Nat) (tab : Tab) (m : MpL) (v1 v2 : Value), j + 1 ≤ ls.length ∧ i = .int .i64 j ∧ Hid (Round w d q 600 j wr L D s turn idx tab m v1 v2)) (fun i _ => ls.length - (intOf i).toNat)
    case atStart => exact ⟨0, L, _, 0, _, _, _, _, _, by omega, rfl, Lib.hid hR⟩
    case round =>
      obtain ⟨j, L, D, turn, idx, tab, m, v1, v2, hj, rfl, HR⟩ := hrel
      by_cases hjl : j + 1 < ls.length
      · have hjt : j < ls.length := by omega
        have hR := HR.out
        obtain ⟨A1, c1, A2, c2, he⟩ := hR.map.form
        cases he
        obtain ⟨y0, y1, _⟩ := hR.blk.st2
        obtain ⟨b, off, vi, rfl, c0, hbs, hbl⟩ := Hrow.out j hjt
        have hbw : b < w.heap.size := World.block_lt_of_cell? w _ c0
        have c0 := cell_chg hR.same c0 (fun h => h)
        have hbs := hbs.same hR.same
        have hbT := hR.oldT b hbw
        have hqT := hR.qT
        have hN := hR.newT
        have hqw := hR.blk.lt
        have hbw2 : b < wr.heap.size := World.block_lt_of_cell? wr _ c0
        have hd := hR.hd
        subst hd
        have hputs := hR.puts hbs hbl
        have hstep := fun W (k : Same wr W) vp l (hp : PutsAt W vp l) (hpf : RowFrom (Away W L s) vp) (hl : l.length ≤ 4) (hz : ∀ p ∈ l, p.key.length ≤ 300 ∧ p.blob.length ≤ 131072) => step_spec (hR.live.same k) hR.fuse (hR.map.same k) (hR.from'.mono (Away.same k)) hp (.inr hpf) (by omega) (fun p hp => by have := hz p hp; omega) (by have := hR.turn; omega)
        go_wp2
        refine wp_region_noPanic ?_
        refine regionL (fun w' => w'.cell? ⟨q, 0, none⟩ = some (.slice A1 m.length c1) ∧ w'.cell? ⟨q, 1, none⟩ = some (.slice A2 m.length c2) ∧ w'.cell? ⟨b, off + j, none⟩ = some vi) (fun w' => True) 13 (by kernel_rfl) (⟨y0, y1, c0⟩) (trivial) (fun hSK => ?_)
        refine takeK0 (i := 0) (v := ?v14) rfl (by kernel_rfl) (by kernel_rfl) (by kernel_rfl) rfl (fun _ _ _ h => h) (Or.inl ⟨by rfl, ?h14⟩) hSK (fun hSK => ?_)
        case h14 => intro w hSw; obtain ⟨hd0, hd1⟩ := hSw; first | (go_simp; done) | (go_simp; with_reducible rfl)
        try simp only [Act.put, List.setIfInBounds_toArray, List.set_cons_zero, List.set_cons_succ]
        refine takeK0 (i := 1) (v := ?v15) rfl (by kernel_rfl) (by kernel_rfl) (by kernel_rfl) rfl (fun _ _ _ h => h) (Or.inl ⟨by rfl, ?h15⟩) hSK (fun hSK => ?_)
        case h15 => intro w hSw; obtain ⟨hd0, hd1⟩ := hSw; first | (go_simp; done) | (go_simp; with_reducible rfl)
        try simp only [Act.put, List.setIfInBounds_toArray, List.set_cons_zero, List.set_cons_succ]
        refine takeK0 (i := 2) (v := ?v16) rfl (by kernel_rfl) (by kernel_rfl) (by kernel_rfl) rfl (fun _ _ _ h => h) (Or.inl ⟨by rfl, ?h16⟩) hSK (fun hSK => ?_)
        case h16 => intro w hSw; obtain ⟨hd0, hd1, hd2⟩ := hSw; first | (go_simp; done) | (go_simp; with_reducible rfl)
        try simp only [Act.put, List.setIfInBounds_toArray, List.set_cons_zero, List.set_cons_succ]
        refine takeK0 (i := 3) (v := ?v17) rfl (by kernel_rfl) (by kernel_rfl) (by kernel_rfl) rfl (fun _ _ _ h => h) (Or.inl ⟨by rfl, ?h17⟩) hSK (fun hSK => ?_)
        case h17 => intro w hSw; obtain ⟨hd0, hd1⟩ := hSw; first | (go_simp; done) | (go_simp; with_reducible rfl)
        try simp only [Act.put, List.setIfInBounds_toArray, List.set_cons_zero, List.set_cons_succ]
        refine takeK0 (i := 4) (v := ?v18) rfl (by kernel_rfl) (by kernel_rfl) (by kernel_rfl) rfl (fun _ _ _ h => h) (Or.inl ⟨by rfl, ?h18⟩) hSK (fun hSK => ?_)
        case h18 => intro w hSw; obtain ⟨hd0, hd1⟩ := hSw; first | (go_simp; done) | (go_simp; with_reducible rfl)
        try simp only [Act.put, List.setIfInBounds_toArray, List.set_cons_zero, List.set_cons_succ]
        refine takeK0 (i := 5) (v := ?v19) rfl (by kernel_rfl) (by kernel_rfl) (by kernel_rfl) rfl (fun _ _ _ h => h) (Or.inl ⟨by rfl, ?h19⟩) hSK (fun hSK => ?_)
        case h19 => intro w hSw; obtain ⟨hd0, hd1⟩ := hSw; first | (go_simp; done) | (go_simp; with_reducible rfl)
        try simp only [Act.put, List.setIfInBounds_toArray, List.set_cons_zero, List.set_cons_succ]
        refine takeK0 (i := 6) (v := ?v20) rfl (by kernel_rfl) (by kernel_rfl) (by kernel_rfl) rfl (fun _ _ _ h => h) (Or.inl ⟨by rfl, ?h20⟩) hSK (fun hSK => ?_)
        case h20 => intro w hSw; obtain ⟨hd0, hd1, hd2⟩ := hSw; first | (go_simp; done) | (go_simp; with_reducible rfl)
        try simp only [Act.put, List.setIfInBounds_toArray, List.set_cons_zero, List.set_cons_succ]
        refine readyL2 (i := 7) (j := 12) (by kernel_rfl) rfl rfl (fun K hK => ?a21) (fun K hK => ?b21)
        case' a21 =>
          rw [if_pos (by rfl)]
          go_simp
          refine (hputs _ ((Chg.refl _ wr).drew)).mono ?_
          rintro e w4 ⟨vp, l, rfl, hpl, hpf, hl4, hsm, k4⟩
          have kw4 : Same wr w4 := (Chg.refl _ wr).drew.trans k4
          refine hK.out _ _ (SK.both ⟨cell_chg (S := fun k => k = s ∨ L.fp k) (Chg.of_same kw4) y0 hqT, cell_chg (S := fun k => k = s ∨ L.fp k) (Chg.of_same kw4) y1 hqT, cell_chg (S := fun k => k = s ∨ L.fp k) (Chg.of_same kw4) c0 hbT⟩ trivial _) (fun hSK => ?_)
          clear hK K
          try simp only [Act.put, List.setIfInBounds_toArray, List.set_cons_zero, List.set_cons_succ]
          refine readyL2 (i := 8) (j := 12) (by kernel_rfl) rfl rfl (fun K hK => ?a9) (fun K hK => ?b9)
          case' a9 =>
            rw [if_pos (by rfl)]
            go_simp
            refine (hstep _ (kw4) vp l (hpl) (hpf) hl4 hsm).mono ?_
            rintro e w5 ⟨v', L', D', turn', idx', tab', m', rfl, hL', hfu', hlen', hm', hf', hd', _, hfp', kst, htu', _⟩
            obtain ⟨B1, d1, B2, d2, rfl⟩ := hm'.form
            dsimp only
            have ks : Chg (fun k => k = s ∨ L.fp k) wr w5 := (Chg.of_same kw4).trans kst
            refine hK.out _ _ (SK.both ⟨cell_chg (S := fun k => k = s ∨ L.fp k) ks y0 hqT, cell_chg (S := fun k => k = s ∨ L.fp k) ks y1 hqT, cell_chg (S := fun k => k = s ∨ L.fp k) ks c0 hbT⟩ trivial _) (fun hSK => ?_)
            clear hK K
            try simp only [Act.put, List.setIfInBounds_toArray, List.set_cons_zero, List.set_cons_succ]
            refine takeK0 (i := 9) (v := ?v1) rfl (by kernel_rfl) (by kernel_rfl) (by kernel_rfl) rfl (fun _ _ _ h => h) (Or.inl ⟨by rfl, ?h1⟩) hSK (fun hSK => ?_)
            case h1 => intro w hSw; obtain ⟨hd0, hd1⟩ := hSw; first | (go_simp; done) | (go_simp; with_reducible rfl)
            try simp only [Act.put, List.setIfInBounds_toArray, List.set_cons_zero, List.set_cons_succ]
            refine takeK0 (i := 10) (v := ?v2) rfl (by kernel_rfl) (by kernel_rfl) (by kernel_rfl) rfl (fun _ _ _ h => h) (Or.inl ⟨by rfl, ?h2⟩) hSK (fun hSK => ?_)
            case h2 => intro w hSw; obtain ⟨hd0, hd1⟩ := hSw; first | (go_simp; done) | (go_simp; with_reducible rfl)
            try simp only [Act.put, List.setIfInBounds_toArray, List.set_cons_zero, List.set_cons_succ]
            refine takeK0 (i := 11) (v := ?v3) rfl (by kernel_rfl) (by kernel_rfl) (by kernel_rfl) rfl (fun _ _ _ h => h) (Or.inl ⟨by rfl, ?h3⟩) hSK (fun hSK => ?_)
            case h3 => intro w hSw; obtain ⟨hd0, hd1⟩ := hSw; first | (go_simp; done) | (go_simp; with_reducible rfl)
            try simp only [Act.put, List.setIfInBounds_toArray, List.set_cons_zero, List.set_cons_succ]
            refine readyL (i := 12) (by kernel_rfl) rfl (fun K hK => ?_)
            rw [if_pos (by rfl)]
            go_simp
            refine hK.out _ _ (SK.both ⟨cell_chg (S := fun k => k = s ∨ L.fp k) (ks.alloc _) y0 hqT, cell_chg (S := fun k => k = s ∨ L.fp k) (ks.alloc _) y1 hqT, cell_chg (S := fun k => k = s ∨ L.fp k) (ks.alloc _) c0 hbT⟩ trivial _) (fun hSK => ?_)
            clear hK K
            try simp only [Act.put, List.setIfInBounds_toArray, List.set_cons_zero, List.set_cons_succ]
            refine readyL (i := 13) (by kernel_rfl) rfl (fun K hK => ?_)
            rw [if_pos (by rfl)]
            go_simp
            refine hK.out _ _ (SK.both ⟨cell_chg (S := fun k => k = s ∨ L.fp k) (ks.alloc _) y0 hqT, cell_chg (S := fun k => k = s ∨ L.fp k) (ks.alloc _) y1 hqT, cell_chg (S := fun k => k = s ∨ L.fp k) (ks.alloc _) c0 hbT⟩ trivial _) (fun hSK => ?_)
            clear hK K
            try simp only [Act.put, List.setIfInBounds_toArray, List.set_cons_zero, List.set_cons_succ]
            refine takeK0 (i := 14) (v := ?v4) rfl (by kernel_rfl) (by kernel_rfl) (by kernel_rfl) rfl (fun _ _ _ h => h) (Or.inl ⟨by rfl, ?h4⟩) hSK (fun hSK => ?_)
            case h4 => intro w hSw; obtain ⟨hd0, hd1⟩ := hSw; first | (go_simp; done) | (go_simp; with_reducible rfl)
            try simp only [Act.put, List.setIfInBounds_toArray, List.set_cons_zero, List.set_cons_succ]
            refine doneL (by kernel_rfl) ?_ _
            refine NoPanic.normal ?_
            have hA := after_alloc hR hL' hm' hf' ks
            obtain ⟨x, hx⟩ : ∃ x, x = w5.heap.size := ⟨_, rfl⟩
            rw [← hx] at hA ⊢
            generalize w5.alloc (.cells #[.slice B1 m'.length d1, .slice B2 m'.length d2] 32) = W at *
            clear hx
          case' b9 =>
            rw [if_pos (by rfl)]
            go_simp
            refine hK.out _ _ (SK.both ⟨cell_chg (S := fun k => k = s ∨ L.fp k) (Chg.of_same (kw4.alloc _)) y0 hqT, cell_chg (S := fun k => k = s ∨ L.fp k) (Chg.of_same (kw4.alloc _)) y1 hqT, cell_chg (S := fun k => k = s ∨ L.fp k) (Chg.of_same (kw4.alloc _)) c0 hbT⟩ trivial _) (fun hSK => ?_)
            clear hK K
            try simp only [Act.put, List.setIfInBounds_toArray, List.set_cons_zero, List.set_cons_succ]
            refine readyL (i := 8) (by kernel_rfl) rfl (fun K hK => ?_)
            rw [if_pos (by rfl)]
            go_simp
            refine (hstep _ (kw4.alloc _) vp l (hpl.same ((Chg.refl _ w4).alloc _)) (hpf.mono (Away.same ((Chg.refl _ w4).alloc _))) hl4 hsm).mono ?_
            rintro e w5 ⟨v', L', D', turn', idx', tab', m', rfl, hL', hfu', hlen', hm', hf', hd', _, hfp', kst, htu', _⟩
            obtain ⟨B1, d1, B2, d2, rfl⟩ := hm'.form
            dsimp only
            have ks : Chg (fun k => k = s ∨ L.fp k) wr w5 := (Chg.of_same (kw4.alloc _)).trans kst
            have hz2 : Blk w5 w4.heap.size 32 [.slice none 0 0, .slice none 0 0] := (Blk.new w4 32 [.slice none 0 0, .slice none 0 0]).chg kst (hN _ kw4.size)
            obtain ⟨z0, z1, z2, z3, z4, z5⟩ := hz2.st2
            have hwz := kw4.size
            refine hK.out _ _ (SK.both ⟨cell_chg (S := fun k => k = s ∨ L.fp k) ks y0 hqT, cell_chg (S := fun k => k = s ∨ L.fp k) ks y1 hqT, cell_chg (S := fun k => k = s ∨ L.fp k) ks c0 hbT⟩ trivial _) (fun hSK => ?_)
            clear hK K
            try simp only [Act.put, List.setIfInBounds_toArray, List.set_cons_zero, List.set_cons_succ]
            refine takeK0 (i := 9) (v := ?v5) rfl (by kernel_rfl) (by kernel_rfl) (by kernel_rfl) rfl (fun _ _ _ h => h) (Or.inl ⟨by rfl, ?h5⟩) hSK (fun hSK => ?_)
            case h5 => intro w hSw; obtain ⟨hd0, hd1⟩ := hSw; first | (go_simp; done) | (go_simp; with_reducible rfl)
            try simp only [Act.put, List.setIfInBounds_toArray, List.set_cons_zero, List.set_cons_succ]
            refine takeK0 (i := 10) (v := ?v6) rfl (by kernel_rfl) (by kernel_rfl) (by kernel_rfl) rfl (fun _ _ _ h => h) (Or.inl ⟨by rfl, ?h6⟩) hSK (fun hSK => ?_)
            case h6 => intro w hSw; obtain ⟨hd0, hd1⟩ := hSw; first | (go_simp; done) | (go_simp; with_reducible rfl)
            try simp only [Act.put, List.setIfInBounds_toArray, List.set_cons_zero, List.set_cons_succ]
            refine takeK0 (i := 11) (v := ?v7) rfl (by kernel_rfl) (by kernel_rfl) (by kernel_rfl) rfl (fun _ _ _ h => h) (Or.inl ⟨by rfl, ?h7⟩) hSK (fun hSK => ?_)
            case h7 => intro w hSw; obtain ⟨hd0, hd1⟩ := hSw; first | (go_simp; done) | (go_simp; with_reducible rfl)
            try simp only [Act.put, List.setIfInBounds_toArray, List.set_cons_zero, List.set_cons_succ]
            refine readyL (i := 13) (by kernel_rfl) rfl (fun K hK => ?_)
            rw [if_pos (by rfl)]
            go_simp
            refine hK.out _ _ (SK.both ⟨cell_chg (Chg.put2 w5 w4.heap.size _ _) (cell_chg (S := fun k => k = s ∨ L.fp k) ks y0 hqT) (show q ≠ w4.heap.size from by omega), cell_chg (Chg.put2 w5 w4.heap.size _ _) (cell_chg (S := fun k => k = s ∨ L.fp k) ks y1 hqT) (show q ≠ w4.heap.size from by omega), cell_chg (Chg.put2 w5 w4.heap.size _ _) (cell_chg (S := fun k => k = s ∨ L.fp k) ks c0 hbT) (show b ≠ w4.heap.size from by omega)⟩ trivial _) (fun hSK => ?_)
            clear hK K
            try simp only [Act.put, List.setIfInBounds_toArray, List.set_cons_zero, List.set_cons_succ]
            refine takeK0 (i := 14) (v := ?v8) rfl (by kernel_rfl) (by kernel_rfl) (by kernel_rfl) rfl (fun _ _ _ h => h) (Or.inl ⟨by rfl, ?h8⟩) hSK (fun hSK => ?_)
            case h8 => intro w hSw; obtain ⟨hd0, hd1⟩ := hSw; first | (go_simp; done) | (go_simp; with_reducible rfl)
            try simp only [Act.put, List.setIfInBounds_toArray, List.set_cons_zero, List.set_cons_succ]
            refine doneL (by kernel_rfl) ?_ _
            refine NoPanic.normal ?_
            have hA := after_put hR hL' hm' hf' ks (kw4.size) hz2
            obtain ⟨x, hx⟩ : ∃ x, x = w4.heap.size := ⟨_, rfl⟩
            rw [← hx] at hA ⊢
            generalize (w5.setCell ⟨x, 0, none⟩ (.slice B1 m'.length d1)).setCell ⟨x, 1, none⟩ (.slice B2 m'.length d2) = W at *
            clear hx
        case' b21 =>
          rw [if_pos (by rfl)]
          go_simp
          refine hK.out _ _ (SK.both ⟨cell_chg (S := fun k => k = s ∨ L.fp k) ((Chg.refl _ wr).drew.alloc _) y0 hqT, cell_chg (S := fun k => k = s ∨ L.fp k) ((Chg.refl _ wr).drew.alloc _) y1 hqT, cell_chg (S := fun k => k = s ∨ L.fp k) ((Chg.refl _ wr).drew.alloc _) c0 hbT⟩ trivial _) (fun hSK => ?_)
          clear hK K
          try simp only [Act.put, List.setIfInBounds_toArray, List.set_cons_zero, List.set_cons_succ]
          refine readyL (i := 7) (by kernel_rfl) rfl (fun K hK => ?_)
          rw [if_pos (by rfl)]
          go_simp
          refine (hputs _ ((Chg.refl _ wr).drew.alloc _)).mono ?_
          rintro e w4 ⟨vp, l, rfl, hpl, hpf, hl4, hsm, k4⟩
          have kw4 : Same wr w4 := ((Chg.refl _ wr).drew.alloc _).trans k4
          have hz1 : Blk w4 wr.heap.size 32 [.slice none 0 0, .slice none 0 0] := (Blk.new wr.drew 32 _).same k4
          refine hK.out _ _ (SK.both ⟨cell_chg (S := fun k => k = s ∨ L.fp k) (Chg.of_same kw4) y0 hqT, cell_chg (S := fun k => k = s ∨ L.fp k) (Chg.of_same kw4) y1 hqT, cell_chg (S := fun k => k = s ∨ L.fp k) (Chg.of_same kw4) c0 hbT⟩ trivial _) (fun hSK => ?_)
          clear hK K
          try simp only [Act.put, List.setIfInBounds_toArray, List.set_cons_zero, List.set_cons_succ]
          refine readyL (i := 8) (by kernel_rfl) rfl (fun K hK => ?_)
          rw [if_pos (by rfl)]
          go_simp
          refine (hstep _ (kw4) vp l (hpl) (hpf) hl4 hsm).mono ?_
          rintro e w5 ⟨v', L', D', turn', idx', tab', m', rfl, hL', hfu', hlen', hm', hf', hd', _, hfp', kst, htu', _⟩
          obtain ⟨B1, d1, B2, d2, rfl⟩ := hm'.form
          dsimp only
          have ks : Chg (fun k => k = s ∨ L.fp k) wr w5 := (Chg.of_same kw4).trans kst
          have hz2 : Blk w5 wr.heap.size 32 [.slice none 0 0, .slice none 0 0] := hz1.chg kst (hN _ (Nat.le_refl _))
          obtain ⟨z0, z1, z2, z3, z4, z5⟩ := hz2.st2
          refine hK.out _ _ (SK.both ⟨cell_chg (S := fun k => k = s ∨ L.fp k) ks y0 hqT, cell_chg (S := fun k => k = s ∨ L.fp k) ks y1 hqT, cell_chg (S := fun k => k = s ∨ L.fp k) ks c0 hbT⟩ trivial _) (fun hSK => ?_)
          clear hK K
          try simp only [Act.put, List.setIfInBounds_toArray, List.set_cons_zero, List.set_cons_succ]
          refine takeK0 (i := 9) (v := ?v10) rfl (by kernel_rfl) (by kernel_rfl) (by kernel_rfl) rfl (fun _ _ _ h => h) (Or.inl ⟨by rfl, ?h10⟩) hSK (fun hSK => ?_)
          case h10 => intro w hSw; obtain ⟨hd0, hd1⟩ := hSw; first | (go_simp; done) | (go_simp; with_reducible rfl)
          try simp only [Act.put, List.setIfInBounds_toArray, List.set_cons_zero, List.set_cons_succ]
          refine takeK0 (i := 10) (v := ?v11) rfl (by kernel_rfl) (by kernel_rfl) (by kernel_rfl) rfl (fun _ _ _ h => h) (Or.inl ⟨by rfl, ?h11⟩) hSK (fun hSK => ?_)
          case h11 => intro w hSw; obtain ⟨hd0, hd1⟩ := hSw; first | (go_simp; done) | (go_simp; with_reducible rfl)
          try simp only [Act.put, List.setIfInBounds_toArray, List.set_cons_zero, List.set_cons_succ]
          refine takeK0 (i := 11) (v := ?v12) rfl (by kernel_rfl) (by kernel_rfl) (by kernel_rfl) rfl (fun _ _ _ h => h) (Or.inl ⟨by rfl, ?h12⟩) hSK (fun hSK => ?_)
          case h12 => intro w hSw; obtain ⟨hd0, hd1⟩ := hSw; first | (go_simp; done) | (go_simp; with_reducible rfl)
          try simp only [Act.put, List.setIfInBounds_toArray, List.set_cons_zero, List.set_cons_succ]
          refine readyL (i := 13) (by kernel_rfl) rfl (fun K hK => ?_)
          rw [if_pos (by rfl)]
          go_simp
          refine hK.out _ _ (SK.both ⟨cell_chg (Chg.put2 w5 wr.heap.size _ _) (cell_chg (S := fun k => k = s ∨ L.fp k) ks y0 hqT) (show q ≠ wr.heap.size from by omega), cell_chg (Chg.put2 w5 wr.heap.size _ _) (cell_chg (S := fun k => k = s ∨ L.fp k) ks y1 hqT) (show q ≠ wr.heap.size from by omega), cell_chg (Chg.put2 w5 wr.heap.size _ _) (cell_chg (S := fun k => k = s ∨ L.fp k) ks c0 hbT) (show b ≠ wr.heap.size from by omega)⟩ trivial _) (fun hSK => ?_)
          clear hK K
          try simp only [Act.put, List.setIfInBounds_toArray, List.set_cons_zero, List.set_cons_succ]
          refine takeK0 (i := 14) (v := ?v13) rfl (by kernel_rfl) (by kernel_rfl) (by kernel_rfl) rfl (fun _ _ _ h => h) (Or.inl ⟨by rfl, ?h13⟩) hSK (fun hSK => ?_)
          case h13 => intro w hSw; obtain ⟨hd0, hd1⟩ := hSw; first | (go_simp; done) | (go_simp; with_reducible rfl)
          try simp only [Act.put, List.setIfInBounds_toArray, List.set_cons_zero, List.set_cons_succ]
          refine doneL (by kernel_rfl) ?_ _
          refine NoPanic.normal ?_
          have hA := after_put hR hL' hm' hf' ks (Nat.le_refl _) hz2
          obtain ⟨x, hx⟩ : ∃ x, x = wr.heap.size := ⟨_, rfl⟩
          rw [← hx] at hA ⊢
          generalize (w5.setCell ⟨x, 0, none⟩ (.slice B1 m'.length d1)).setCell ⟨x, 1, none⟩ (.slice B2 m'.length d2) = W at *
          clear hx
        all_goals
          have hq4 : w.heap.size ≤ w4.heap.size := Nat.le_trans hR.same.size kw4.size
          obtain ⟨x0, x1, _⟩ := hA.bx.st2
          obtain ⟨t0, t1, t2, t3, t4, t5⟩ := hA.bq.st2
          have hR2 := hR.next hA hq hfu' hlen' hd' hfp' (by first | exact hq4 | (rw [World.size_alloc]; omega)) htu'
          clear hA hputs hstep hR hL' hm' hf' hpl hpf hsm kst ks hfp' y0 y1 c0 hbs hSK hN hqT hbT
          go_wp2
          exact ⟨⟨j + 1, L', D', turn', idx', tab', m', _, _, by omega, rfl, Lib.hid hR2⟩, by simp only [intOf]; omega⟩
      · have hR := HR.out
        obtain ⟨A1, c1, A2, c2, he⟩ := hR.map.form
        cases he
        obtain ⟨y0, y1, _⟩ := hR.blk.st2
        obtain ⟨b, off, vi, rfl, c0, hbs, hbl⟩ := Hrow.out j (by omega)
        have c0 := cell_chg hR.same c0 (fun h => h)
        have hbs := hbs.same hR.same
        have hlj : ls.length = j + 1 := by omega
        rw [hlj]
        have hd := hR.hd
        subst hd
        have hri := hR.live.dg.rising
        obtain ⟨hml, hms⟩ := hR.live.dg.msmall
        have hslt := hR.live.s_lt
        have hfplt : ∀ k, L.fp k → k < wr.heap.size := fun k hk => hR.live.disk.fp_lt hk
        have htj : turn ≤ 12 := by have := hR.turn; omega
        go_wp2_with fail
        refine (puts_spec hbs hbl).mono ?_
        rintro e w4 ⟨vp, l, rfl, hp, hpf, hl4, hmay, hpz, k4⟩
        have z4 := k4.size
        have hall := mayF_all hmay
        have hsm2 := mpPuts_small l (m := m) (n := 34064) (by omega) hms hall
        have hmc := mapCommit_spec (hR.map.same k4) hp hri (hR.from'.mono (Away.same k4)) (by omega) hms hall
        obtain ⟨y0, y1, _⟩ := (hR.blk.same k4).st2
        clear c0 hbs
        go_wp2_with fail
        refine hmc.mono ?_
        rintro e w5 ⟨v5, rfl, hm5, hf5, k5⟩
        obtain ⟨B1, d1, B2, d2, rfl⟩ := hm5.form
        have z5 := k5.size
        have kx : Same w5 (w5.alloc (.cells #[.slice B1 (mpPuts m l).length d1, .slice B2 (mpPuts m l).length d2] 32)) := (Chg.refl _ w5).alloc _
        have k46 := (k4.trans k5).trans kx
        have z6 : (w5.alloc (.cells #[.slice B1 (mpPuts m l).length d1, .slice B2 (mpPuts m l).length d2] 32)).heap.size = w5.heap.size + 1 := by simp
        have hH : Held w q w5.heap.size (w5.alloc (.cells #[.slice B1 (mpPuts m l).length d1, .slice B2 (mpPuts m l).length d2] 32)) L s vp (.slice A1 m.length c1) (.slice A2 m.length c2) (.slice B1 (mpPuts m l).length d1) (.slice B2 (mpPuts m l).length d2) l m (mpPuts m l) :=
          ⟨hp.same (k5.trans kx), hpf.mono (fun b hb => ⟨by omega, by omega, fun h => by have := hfplt b h; omega⟩), hR.map.same k46, hR.from'.mono (Away.same k46), hm5.same kx, hf5.mono (fun b hb => hb.elim (fun hb => ⟨by have := hb.1; omega, hb.2⟩) (fun hb => ⟨by omega, by omega, fun h => by have := hfplt b h; omega⟩)), hR.blk.same k46, Blk.new w5 32 _, hR.hfp, hR.hs, hR.same.trans k46⟩
        have hL6 := hR.live.same k46
        have hlen := hR.len
        have hfu0 := hR.fuse
        have hfull := full_spec hL6.disk hH.m hH.n (by omega) (by omega) hms hsm2.2
        rw [hlen] at hfull
        obtain ⟨y0, y1, _⟩ := hH.bq.st2
        obtain ⟨x0, x1, _⟩ := hH.bx.st2
        clear hmc hp hpf hm5 hf5 kx k46 k4 k5 hR HR
        by_cases hfl : 600 < 3 * (needOf m + needOf (mpPuts m l)) + 40
        · rw [decide_eq_true hfl] at hfull
          go_wp2_with (first
            | (go_at_call 20; refine hfull.mono ?_; rintro e w7 ⟨rfl, k7⟩)
            | (go_at_call 12; refine (awake_spec _).mono ?_; rintro e w8 ⟨rfl, k8⟩))
          go_ret
          exact ⟨rfl, (hH.same.trans k7).trans k8⟩
        · rw [decide_eq_false hfl] at hfull
          obtain ⟨ff, hff, hff2⟩ : ∃ ff : Nat, (fuse : Int).tmod 40 = (ff : Int) ∧ ff < 40 := ⟨fuse % 40, by rw [Int.tmod_eq_emod_of_nonneg (by omega)]; omega, by omega⟩
          obtain ⟨f2, hf2, hf22⟩ : ∃ f2 : Nat, (fuse2 : Int).tmod 20 = (f2 : Int) ∧ f2 < 20 := ⟨fuse2 % 20, by rw [Int.tmod_eq_emod_of_nonneg (by omega)]; omega, by omega⟩
          go_wp2_with fail
          refine hfull.mono ?_
          rintro e w7 ⟨rfl, k7⟩
          have hH7 := hH.then_same k7
          have hL7 := hL6.same k7
          clear hH hL6 hfull x0 x1 y0 y1 k7
          go_wp2_with fail
          refine (fuse_live hL7 ff (by omega)).mono ?_
          rintro e w8 ⟨rfl, k8, hL8⟩
          have hH8 := hH7.chg (L' := L) (k8.mono (fun _ _ h => .inr h)) (fun _ h => .inl h) (Blk.awayOf hH7.bq hL7.disk hL7.store) (Blk.awayOf hH7.bx hL7.disk hL7.store)
          clear hH7 hL7 k8
          have hc := commit_live hL8 hH8.p (by omega) (fun p hp => by have := hall p hp; omega) (by omega)
          go_wp2_with fail
          refine hc.mono ?_
          rintro e w9 ⟨L9, D9, c9, rfl, hd9, _, hf9, k9, hE⟩
          have hH9 := hH8.chg k9 hf9 (Blk.awayOf hH8.bq hL8.disk hL8.store) (Blk.awayOf hH8.bx hL8.disk hL8.store)
          have hlen8 : (D.setFuse ff).firm.length = 600 := hlen
          clear hc k9 hf9 hH8
          rcases hE with ⟨a1, _⟩ | ⟨_, _, a3, _⟩ | ⟨_, rfl, idx2, tab2, hL9, a5, a6⟩ | ⟨_, rfl, hS9, hD9, a5, a6, a7, a8⟩
          · rw [hmay] at a1; cases a1
          · rw [hlen8] at a3; exact absurd a3 hfl
          · have hS9 := hL9.store
            have hD9 := hL9.disk
            have hlo : D9.loose.length ≤ 65536 := by rw [hL9.dg.loose]; simp
            have hcr := hL9.dg.crash0
            go_wp2_with (first | (go_at_call 14; refine (err_spec _ _).mono ?_; rintro e w40 ⟨rfl, rfl⟩) | fail)
            refine (ints_spec (hk.same hH9.same) hkl).mono ?_
            rintro e wpa ⟨vp, rfl, hrowp, kpa⟩
            have hDa := hD9.same kpa
            have hSa := hS9.same kpa
            have hcs := crash_own hDa hlo hrowp (by simp [intsF]) hkl (fun k hk => hD9.fp_lt hk)
            have HHa := hH9.then_same kpa
            rw [hd9] at hcs
            clear hrowp hH9
            go_wp2_with fail
            refine hcs.mono ?_
            rintro e wpb ⟨rfl, Lp, hDpb, kpb, hdp, _, hfp⟩
            have HHpb := HHa.chg (kpb.mono (fun _ _ h => .inr h)) hfp (Blk.awayOf HHa.bq hDa hSa) (Blk.awayOf HHa.bx hDa hSa)
            have hSpb := hSa.chgD hDa kpb
            obtain ⟨hgp, _, _⟩ := hcr (intsF keep)
            clear hcs hDa hSa HHa kpb hfp kpa
            cases late with
            | false =>
              have hop := open_live hDpb hgp
              rw [hdp, hd9] at hop
              go_wp2_with fail
              refine hop.mono ?_
              rintro e wc ⟨t, rfl, hLt, ht, kc⟩
              have HHc := HHpb.then_same kc
              clear HHpb hop kc
              obtain ⟨x0, x1, _⟩ := HHc.bx.st2
              have his := is_spec hLt HHc.n (by omega)
              rw [decide_eq_true rfl] at his
              have hkk := HHc.same
              go_wp2_with (first
                | (go_at_call 14; refine (err_spec _ _).mono ?_; rintro e w40 ⟨rfl, rfl⟩)
                | (go_at_call 17; refine his.mono ?_; rintro e w41 ⟨rfl, k41⟩)
                | (go_at_call 12; refine (awake_spec _).mono ?_; rintro e w42 ⟨rfl, k42⟩))
              go_ret
              exact ⟨rfl, (hkk.trans k41).trans k42⟩
            | true =>
              have hfs := fuse_spec hDpb (f2 : Int) (by omega) (by omega)
              rw [hdp, hd9] at hfs
              go_wp2_with fail
              refine hfs.mono ?_
              rintro e wc ⟨rfl, kc, hDc⟩
              have kc' : Chg Lp.fp wpb wc := kc.mono (fun j _ e => .inl (e.trans (hd9.symm.trans hdp.symm)))
              have HHc := HHpb.chg (L' := Lp) (kc'.mono (fun _ _ h => .inr h)) (fun _ h => .inl h) (Blk.awayOf HHpb.bq hDpb hSpb) (Blk.awayOf HHpb.bx hDpb hSpb)
              have hSc := hSpb.chgD hDpb kc'
              have hgc := hgp.setFuse f2
              have hop := open_live hDc hgc
              rw [hdp, hd9] at hop
              clear hfs kc kc' HHpb
              go_wp2_with fail
              refine hop.mono ?_
              rintro e wd ⟨t, rfl, hLt, ht, kd⟩
              have HHd := HHc.then_same kd
              have hDd := hDc.same kd
              have hSd := hSc.same kd
              have hlo2 : (((D9.crash (intsF keep)).setFuse f2)).loose.length ≤ 65536 := by rw [hgc.loose]; simp
              clear hop HHc kd hLt
              go_wp2_with (first | (go_at_call 14; refine (err_spec _ _).mono ?_; rintro e w40 ⟨rfl, rfl⟩) | fail)
              refine (ints_spec (hk2.same HHd.same) hkl2).mono ?_
              rintro e wra ⟨vr, rfl, hrowr, kra⟩
              have hDa := hDd.same kra
              have hSa := hSd.same kra
              have hcs := crash_own hDa hlo2 hrowr (by simp [intsF]) hkl2 (fun k hk => hDd.fp_lt hk)
              have HHa := HHd.then_same kra
              rw [hdp, hd9] at hcs
              clear hrowr HHd
              go_wp2_with fail
              refine hcs.mono ?_
              rintro e wrb ⟨rfl, Lr, hDrb, krb, hdr, _, hfr⟩
              have HHrb := HHa.chg (krb.mono (fun _ _ h => .inr h)) hfr (Blk.awayOf HHa.bq hDa hSa) (Blk.awayOf HHa.bx hDa hSa)
              have hSrb := hSa.chgD hDa krb
              obtain ⟨hgr, _, _⟩ := hgc.crash0 (intsF keep2)
              clear hcs hDa hSa HHa krb hfr kra
              have hop := open_live hDrb hgr
              rw [hdr, hdp, hd9] at hop
              go_wp2_with fail
              refine hop.mono ?_
              rintro e we ⟨t2, rfl, hLt2, ht2, ke⟩
              have HHe := HHrb.then_same ke
              clear HHrb hop ke
              obtain ⟨x0, x1, _⟩ := HHe.bx.st2
              have his := is_spec hLt2 HHe.n (by omega)
              rw [decide_eq_true rfl] at his
              have hkk := HHe.same
              go_wp2_with (first
                | (go_at_call 14; refine (err_spec _ _).mono ?_; rintro e w40 ⟨rfl, rfl⟩)
                | (go_at_call 17; refine his.mono ?_; rintro e w41 ⟨rfl, k41⟩)
                | (go_at_call 12; refine (awake_spec _).mono ?_; rintro e w42 ⟨rfl, k42⟩))
              go_ret
              exact ⟨rfl, (hkk.trans k41).trans k42⟩
          · have hkd := keysDown hS9
            go_wp2_with (first | (go_at_call 14; refine (err_spec _ _).mono ?_; rintro e w40 ⟨rfl, rfl⟩) | fail)
            refine hkd.mono ?_
            rintro e w10 ⟨rfl, k10⟩
            have hH10 := hH9.then_same k10
            have hD10 := hD9.same k10
            have hS10 := hS9.same k10
            clear hkd hH9
            go_wp2_with fail
            refine (ints_spec (hk.same hH10.same) hkl).mono ?_
            rintro e wpa ⟨vp, rfl, hrowp, kpa⟩
            have hDa := hD10.same kpa
            have hSa := hS10.same kpa
            have hcs := crash_own hDa a7 hrowp (by simp [intsF]) hkl (fun k hk => hD10.fp_lt hk)
            have HHa := hH10.then_same kpa
            rw [hd9] at hcs
            clear hrowp hH10
            go_wp2_with fail
            refine hcs.mono ?_
            rintro e wpb ⟨rfl, Lp, hDpb, kpb, hdp, _, hfp⟩
            have HHpb := HHa.chg (kpb.mono (fun _ _ h => .inr h)) hfp (Blk.awayOf HHa.bq hDa hSa) (Blk.awayOf HHa.bx hDa hSa)
            have hSpb := hSa.chgD hDa kpb
            obtain ⟨hgp, _, _⟩ := a8 (intsF keep)
            clear hcs hDa hSa HHa kpb hfp kpa
            cases late with
            | false =>
              have hop := open_live hDpb hgp
              rw [hdp, hd9] at hop
              go_wp2_with fail
              refine hop.mono ?_
              rintro e wc ⟨t, rfl, hLt, ht, kc⟩
              have HHc := HHpb.then_same kc
              clear HHpb hop kc
              obtain ⟨x0, x1, _⟩ := HHc.bx.st2
              have his := is_spec hLt HHc.n (by omega)
              have hkk := HHc.same
              by_cases heq : m = mpPuts m l
              · rw [decide_eq_true heq] at his
                clear heq
                go_wp2_with (first
                  | (go_at_call 14; refine (err_spec _ _).mono ?_; rintro e w40 ⟨rfl, rfl⟩)
                  | (go_at_call 17; refine his.mono ?_; rintro e w41 ⟨rfl, k41⟩)
                  | (go_at_call 12; refine (awake_spec _).mono ?_; rintro e w42 ⟨rfl, k42⟩))
                go_ret
                exact ⟨rfl, (hkk.trans k41).trans k42⟩
              · rw [decide_eq_false heq] at his
                clear heq
                go_wp2_with (first
                  | (go_at_call 14; refine (err_spec _ _).mono ?_; rintro e w40 ⟨rfl, rfl⟩)
                  | fail)
                refine his.mono ?_
                rintro e w41 ⟨rfl, k41⟩
                have HH2 := HHc.then_same k41
                have his2 := is_spec (hLt.same k41) HH2.m (by omega)
                rw [decide_eq_true rfl] at his2
                obtain ⟨y0, y1, _⟩ := HH2.bq.st2
                clear his x0 x1
                go_wp2_with (first
                  | (go_at_call 17; refine his2.mono ?_; rintro e w42 ⟨rfl, k42⟩)
                  | (go_at_call 12; refine (awake_spec _).mono ?_; rintro e w43 ⟨rfl, k43⟩))
                go_ret
                exact ⟨rfl, (HH2.same.trans k42).trans k43⟩
            | true =>
              have hfs := fuse_spec hDpb (f2 : Int) (by omega) (by omega)
              rw [hdp, hd9] at hfs
              go_wp2_with fail
              refine hfs.mono ?_
              rintro e wc ⟨rfl, kc, hDc⟩
              have kc' : Chg Lp.fp wpb wc := kc.mono (fun j _ e => .inl (e.trans (hd9.symm.trans hdp.symm)))
              have HHc := HHpb.chg (L' := Lp) (kc'.mono (fun _ _ h => .inr h)) (fun _ h => .inl h) (Blk.awayOf HHpb.bq hDpb hSpb) (Blk.awayOf HHpb.bx hDpb hSpb)
              have hSc := hSpb.chgD hDpb kc'
              have hgc := hgp.setFuse f2
              have hop := open_live hDc hgc
              rw [hdp, hd9] at hop
              clear hfs kc kc' HHpb
              go_wp2_with fail
              refine hop.mono ?_
              rintro e wd ⟨t, rfl, hLt, ht, kd⟩
              have HHd := HHc.then_same kd
              have hDd := hDc.same kd
              have hSd := hSc.same kd
              have hlo2 : (((D9.crash (intsF keep)).setFuse f2)).loose.length ≤ 65536 := by rw [hgc.loose]; simp
              clear hop HHc kd hLt
              go_wp2_with (first | (go_at_call 14; refine (err_spec _ _).mono ?_; rintro e w40 ⟨rfl, rfl⟩) | fail)
              refine (ints_spec (hk2.same HHd.same) hkl2).mono ?_
              rintro e wra ⟨vr, rfl, hrowr, kra⟩
              have hDa := hDd.same kra
              have hSa := hSd.same kra
              have hcs := crash_own hDa hlo2 hrowr (by simp [intsF]) hkl2 (fun k hk => hDd.fp_lt hk)
              have HHa := HHd.then_same kra
              rw [hdp, hd9] at hcs
              clear hrowr HHd
              go_wp2_with fail
              refine hcs.mono ?_
              rintro e wrb ⟨rfl, Lr, hDrb, krb, hdr, _, hfr⟩
              have HHrb := HHa.chg (krb.mono (fun _ _ h => .inr h)) hfr (Blk.awayOf HHa.bq hDa hSa) (Blk.awayOf HHa.bx hDa hSa)
              have hSrb := hSa.chgD hDa krb
              obtain ⟨hgr, _, _⟩ := hgc.crash0 (intsF keep2)
              clear hcs hDa hSa HHa krb hfr kra
              have hop := open_live hDrb hgr
              rw [hdr, hdp, hd9] at hop
              go_wp2_with fail
              refine hop.mono ?_
              rintro e we ⟨t2, rfl, hLt2, ht2, ke⟩
              have HHe := HHrb.then_same ke
              clear HHrb hop ke
              obtain ⟨x0, x1, _⟩ := HHe.bx.st2
              have his := is_spec hLt2 HHe.n (by omega)
              have hkk := HHe.same
              by_cases heq : m = mpPuts m l
              · rw [decide_eq_true heq] at his
                clear heq
                go_wp2_with (first
                  | (go_at_call 14; refine (err_spec _ _).mono ?_; rintro e w40 ⟨rfl, rfl⟩)
                  | (go_at_call 17; refine his.mono ?_; rintro e w41 ⟨rfl, k41⟩)
                  | (go_at_call 12; refine (awake_spec _).mono ?_; rintro e w42 ⟨rfl, k42⟩))
                go_ret
                exact ⟨rfl, (hkk.trans k41).trans k42⟩
              · rw [decide_eq_false heq] at his
                clear heq
                go_wp2_with (first
                  | (go_at_call 14; refine (err_spec _ _).mono ?_; rintro e w40 ⟨rfl, rfl⟩)
                  | fail)
                refine his.mono ?_
                rintro e w41 ⟨rfl, k41⟩
                have HH2 := HHe.then_same k41
                have his2 := is_spec (hLt2.same k41) HH2.m (by omega)
                rw [decide_eq_true rfl] at his2
                obtain ⟨y0, y1, _⟩ := HH2.bq.st2
                clear his x0 x1
                go_wp2_with (first
                  | (go_at_call 17; refine his2.mono ?_; rintro e w42 ⟨rfl, k42⟩)
                  | (go_at_call 12; refine (awake_spec _).mono ?_; rintro e w43 ⟨rfl, k43⟩))
                go_ret
                exact ⟨rfl, (HH2.same.trans k42).trans k43⟩
end Go.Proofs.Obj

namespace Go.Proofs.YtiiinmleiigckaaGreatDoor
open Go.ChangeShapes Go.WideShapes Go.ChangeAt Go.RowKit Go.Proofs.Obj

set_option maxRecDepth 100000 in
/-- WHAT THE WALK GIVES, FOR EVERY ARGUMENT. -/
theorem objectsCrash_contract (H : Type) (enc : TypeId × Value → H) (W : World) (base : Nat) (args : Array Value) (ds gs : List (DataW H)) (before : List MemPlace)
    (hval : ∀ (j : Nat) t v, Tryz.f8.params[j]? = some t → args[j]? = some v → Value.okWide Tryz.prog W .any base t v)
    (hW : DataW.Whole enc Tryz.prog Tryz.f8.params.toList Rows.objectsCrashSpec.vars false W args.toList ds gs before)
    (hz : (DataW.weightsEach Tryz.prog (Tryz.f8.params.toList ++ (Rows.OpenSpec.upto Rows.objectsCrashSpec).bare.plain.varTypes Tryz.prog) (ds ++ gs)).all (· ≤ reachBytes) = true)
    (hk : Rows.uptoSmall H (ds ++ gs) = true) :
    Calls Tryz.prog 8 args W fun e W' => ∃ v, e = .returned v ∧ Rows.objectsCrashSpec.post enc Tryz.prog Tryz.f8 false true false false W args v W' := by
  have hW' := hW
  obtain ⟨p, q, hA0, hV, rfl, hfz, hnd⟩ := hW
  have hA : DataW.TrodAll enc Tryz.prog W 0 (fun _ => true) true Tryz.f8.params.toList args.toList ds p := hA0
  rw [Tryz.params8] at hA hval
  obtain ⟨v0, vs0, d0, ds0, p0, q0, hargs, rfl, rfl, h0, r0⟩ := trodAll_cons hA
  obtain ⟨v1, vs1, d1, ds1, p1, q1, rfl, rfl, rfl, h1, r1⟩ := trodAll_cons r0
  obtain ⟨v2, vs2, d2, ds2, p2, q2, rfl, rfl, rfl, h2, r2⟩ := trodAll_cons r1
  obtain ⟨v3, vs3, d3, ds3, p3, q3, rfl, rfl, rfl, h3, r3⟩ := trodAll_cons r2
  obtain ⟨v4, vs4, d4, ds4, p4, q4, rfl, rfl, rfl, h4, r4⟩ := trodAll_cons r3
  obtain ⟨v5, vs5, d5, ds5, p5, q5, rfl, rfl, rfl, h5, r5⟩ := trodAll_cons r4
  obtain ⟨rfl, rfl, rfl⟩ := trodAll_nil r5
  obtain rfl : args = #[v0, v1, v2, v3, v4, v5] := by cases args; simp_all
  obtain ⟨rfl, rfl⟩ := trodVars_none hV
  obtain ⟨b0, len0, cap0, rfl⟩ := okWide_slice Tryz.underlying22 (hval 0 22 v0 rfl rfl)
  obtain ⟨a1, rfl, rfl, rfl, w1⟩ := open_int Tryz.underlying5 (hval 1 5 v1 rfl rfl) h1
  obtain ⟨b2, len2, cap2, rfl⟩ := okWide_slice Tryz.underlying38 (hval 2 38 v2 rfl rfl)
  obtain ⟨b3, len3, cap3, rfl⟩ := okWide_slice Tryz.underlying38 (hval 3 38 v3 rfl rfl)
  obtain ⟨a4, rfl, rfl, rfl, w4⟩ := open_int Tryz.underlying5 (hval 4 5 v4 rfl rfl) h4
  obtain ⟨a5, rfl, rfl, rfl⟩ := open_bool Tryz.underlying4 (hval 5 4 v5 rfl rfl) h5
  clear hA0
  obtain ⟨ls0, hls0, hll0⟩ := open_byteRows h0 (fun n hn => by
    have := List.all_eq_true.1 hz n (DataW.weights_mem_each (j := 0) (t := 22) (d := d0) rfl rfl n hn)
    simpa using this)
  obtain ⟨n1, rfl, hn1⟩ := open_u8 w1
  obtain ⟨ls2, hls2, hll2, hlb2⟩ := open_bytesV h2 (fun n hn => by
    have := List.all_eq_true.1 hz n (DataW.weights_mem_each (j := 2) (t := 38) (d := d2) rfl rfl n hn)
    simpa using this)
  obtain ⟨ls3, hls3, hll3, hlb3⟩ := open_bytesV h3 (fun n hn => by
    have := List.all_eq_true.1 hz n (DataW.weights_mem_each (j := 3) (t := 38) (d := d3) rfl rfl n hn)
    simpa using this)
  obtain ⟨n4, rfl, hn4⟩ := open_u8 w4
  have hbb2 : ls2.length ≤ 1048576 := Nat.le_trans hlb2 (bulk_of hk (d := d2) (by simp))
  have hbb3 : ls3.length ≤ 1048576 := Nat.le_trans hlb3 (bulk_of hk (d := d3) (by simp))
  simp only [List.append_nil] at hW'
  refine (crash_walk hls0 hll0 hn1 hls2 hbb2 hls3 hbb3 hn4).mono fun e W' ⟨he, hg⟩ => ?_
  subst he
  have hB := Chg.same_below hg
  exact ⟨_, rfl, _, _, _, [], _, [], hW', trodAll_mk1 (shut_bool Tryz.underlying4 _), (trodAll_cons_mk (Below.trod laidOutT (by kernel_rfl) (of_decide_eq_true (by kernel_rfl)) h0 hB (fun x hx => hW'.lt x (by simp [hx]))) (trodAll_cons_mk (shut_int Tryz.underlying5 w1) (trodAll_cons_mk (Below.trod laidOutT (by kernel_rfl) (of_decide_eq_true (by kernel_rfl)) h2 hB (fun x hx => hW'.lt x (by simp [hx]))) (trodAll_cons_mk (Below.trod laidOutT (by kernel_rfl) (of_decide_eq_true (by kernel_rfl)) h3 hB (fun x hx => hW'.lt x (by simp [hx]))) (trodAll_cons_mk (shut_int Tryz.underlying5 w4) (trodAll_cons_mk (shut_bool Tryz.underlying4 _) trodAll_mk0)))))), rfl, hB.frame _, fun h => by cases h⟩

abbrev objectsCrash_args : Array Value := #[.slice none 0 0, .int .u8 0, .slice none 0 0, .slice none 0 0, .int .u8 0, .bool false]
theorem objectsCrash_laid (os : Os) : laidMet Tryz.prog Rows.objectsCrashUptoRow.laid ((laidWorld os).forCall (fun _ _ => 0) ⟨#[], objectsCrash_args, []⟩).memory :=
  laidMet_of_run' 8 (by kernel_rfl) (by kernel_rfl)
theorem objectsCrash_reads (os : Os) {H : Type} (enc : TypeId × Value → H) : ∃ places, DataW.whole enc Tryz.prog ((laidWorld os).forCall (fun _ _ => 0) ⟨#[], objectsCrash_args, []⟩).memory Tryz.f8.params.toList Rows.objectsCrashSpec.vars false objectsCrash_args.toList 8 = some ([.nil, .lit (.int .u8 0), .nil, .nil, .lit (.int .u8 0), .lit (.bool false)], [], places) :=
  ⟨[], by kernel_rfl⟩

set_option maxRecDepth 100000 in
theorem objectsCrash_lifted (os : Os) (started : os.Started) (H : Type) (enc : TypeId × Value → H) (F : Stop.Interp) :
    ReturnsInHanded {} Tryz.checked os 8 .any ((Rows.OpenSpec.upto Rows.objectsCrashSpec).preRow enc Tryz.prog Tryz.f8 Rows.objectsCrashUptoRow.domain false Rows.objectsCrashUptoRow.laid) (((Rows.OpenSpec.upto Rows.objectsCrashSpec).at F).post enc Tryz.prog Tryz.f8 false true false false) := by
  obtain ⟨places, hx⟩ := objectsCrash_reads os enc
  refine returnsInHanded_of_row (C := Tryz.checked) (s := Rows.OpenSpec.upto Rows.objectsCrashSpec) ownT started (by kernel_rfl) Tryz.func8
    (witness_row_at (enc := enc) (C := Tryz.checked) false (laidWorld os) objectsCrash_args rfl (by kernel_rfl) (by kernel_rfl) (by kernel_rfl)
      (OpenSpec.preRow_of_cond 8 hx (by kernel_rfl) (fun k hk => by cases hk; kernel_rfl) (by kernel_rfl) (objectsCrash_laid os))) ?_
  intro W base args ds gs before hval hW _ hcond hz _ _ _
  exact objectsCrash_contract H enc W base args ds gs before hval hW hz (hcond _ rfl)

theorem objectsCrash_said : Rows.ObjectsCrashUptoSaid :=
  OpenClaim.holds_of_cond 8 Tryz.f8 rfl rfl rfl rfl rfl rfl rfl ⟨rfl, rfl, rfl, rfl, rfl⟩ rfl rfl rfl rfl rfl (by kernel_rfl) Tryz.func8 (by kernel_rfl)
    (of_decide_eq_true (by kernel_rfl)) (by unfold Func.isWrapper; first | (rw [if_pos (by decide +kernel)]; kernel_rfl) | (rw [if_neg (by decide +kernel)]; exact ⟨rfl, rfl⟩))
    (fun os started H enc _ F => by rw [OpenClaim.pre_eq_preRow]; exact objectsCrash_lifted os started H enc F)

theorem objectsCrash_plain (f : FuncId) (fn : Func) (hf : Tryz.pinned.checked.prog.funcNamed "shelfmark/shelfmarklaw17.ObjectsCrash" = some f) (hfn : Tryz.pinned.checked.prog.funcs[f]? = some fn) :
    true = Tryz.pinned.checked.prog.looks [] ∧ ∀ (j : Nat) t, fn.params[j]? = some t → Tryz.pinned.checked.prog.wantsStandIn t = false := by
  obtain rfl : f = 8 := Option.some.inj ((show Tryz.prog.funcNamed "shelfmark/shelfmarklaw17.ObjectsCrash" = some 8 by kernel_rfl).symm.trans hf) |>.symm
  obtain rfl : fn = Tryz.f8 := (Option.some.inj (Tryz.func8.symm.trans hfn)).symm
  refine ⟨by kernel_rfl, fun j t ht => ?_⟩
  rw [Tryz.params8] at ht
  have ht2 := Array.mem_of_getElem? ht
  simp only [List.mem_toArray, List.mem_cons, List.not_mem_nil, or_false] at ht2
  rcases ht2 with rfl | rfl | rfl | rfl | rfl | rfl
  · exact (show Tryz.prog.wantsStandIn 22 = false by kernel_rfl)
  · exact (show Tryz.prog.wantsStandIn 5 = false by kernel_rfl)
  · exact (show Tryz.prog.wantsStandIn 38 = false by kernel_rfl)
  · exact (show Tryz.prog.wantsStandIn 38 = false by kernel_rfl)
  · exact (show Tryz.prog.wantsStandIn 5 = false by kernel_rfl)
  · exact (show Tryz.prog.wantsStandIn 4 = false by kernel_rfl)

/-- THE CARD. -/
theorem objectsCrash_card : Rows.ObjectsCrashUptoCardSaid :=
  Claim7.holds_tied_plain_at .later [] _ _ _ _ objectsCrash_said (fun _ h => by cases h) (by kernel_rfl) (fun _ h => by cases h) objectsCrashUpto_row_tie rfl ⟨rfl, rfl⟩ (by kernel_rfl) rfl objectsCrash_plain (by kernel_rfl)
#print axioms objectsCrash_card
end Go.Proofs.YtiiinmleiigckaaGreatDoor
