/- ObjectsRuns holds: whatever is committed on a disk of any size, all is as a map has it, but where there is no room; opened anew it is the same. For every input; the card ties the two tables that the row lists. -/
import Derived.Test.YtiiinmleiigckaaGreatDoorGZB
import Derived.Test.YtiiinmleiigckaaGreatDoorGZC
import Derived.Test.YtiiinmleiigckaaGreatDoorCards
import Derived.Test.YtiiinmleiigckaaGreatDoorTie
import Derived.Deep.DeepHandedRow
import Derived.Lib.LaidTab
set_option linter.unusedVariables false
set_option linter.unusedSimpArgs false

namespace Go.Proofs.Obj
open Go Go.RowKit Go.Shelf

set_option maxRecDepth 100000 in
set_option maxHeartbeats 4000000 in
theorem runs_walk {w : World} {size again : Nat} {v : Value} {ls : List (List UInt8)} (hsz : size < 256) (hag : again < 256) (hls : ByteRows w v ls) (hll : ls.length ≤ 140737488355328) :
    Calls Tryz.prog 3 #[.int .u8 size, v, .int .u8 again] w fun e w' => e = .returned (.bool true) ∧ Same w w' := by
  obtain ⟨A, cap, rfl, hrow⟩ := hls
  have hgo : ((30 : Int) < (ls.length : Int)) ∨ ls.length ≤ 30 := by omega
  go_enter Tryz.func3, Tryz.ntmps3
  go_wp2_with fail
  refine (disk_spec size hsz).mono ?_
  rintro e w1 ⟨L, rfl, hD, hfp, k1⟩
  rcases hgo with hgo | hgo
  · clear hrow hD
    go_wp2_with (first | (go_at_call 12; refine (awake_spec _).mono ?_; rintro e w2 ⟨rfl, k2⟩))
    go_ret
    exact ⟨rfl, k1.trans k2⟩
  · have hgo' : ¬ ((30 : Int) < (ls.length : Int)) := by omega
    have hop := open_live hD (new_good (n := 32 + size * 2) (by omega) (by omega))
    go_wp2_with (first
      | (go_at_call 13; refine hop.mono ?_; rintro e w2 ⟨s, rfl, hL, hs, k2⟩)
      | (go_at_call 14; refine (err_spec _ _).mono ?_; rintro e w3 ⟨rfl, rfl⟩))
    have k02 := k1.trans k2
    have kq : Same w2 (w2.alloc (.cells #[.slice none 0 0, .slice none 0 0] 32)) := (Chg.refl _ w2).alloc _
    have hR : Round w L.d w2.heap.size (32 + size * 2) 0 (w2.alloc (.cells #[.slice none 0 0, .slice none 0 0] 32)) L ⟨List.replicate (32 + size * 2) zero64, [], false, -1⟩ s 0 [] [] [] (.slice none 0 0) (.slice none 0 0) :=
      ⟨rfl, hL.same kq, rfl, by simp, Nat.le_refl _, Blk.new w2 32 _, ⟨_, _, rfl, ⟨none, 0, rfl, .inl rfl⟩, ⟨none, 0, rfl, .inl rfl⟩⟩, ⟨none, 0, 0, none, 0, 0, rfl, fun _ e => (by cases e), fun _ e => (by cases e)⟩, Nat.le_trans k1.size hs, hfp, k02.trans kq⟩
    have hq : w.heap.size ≤ w2.heap.size := k02.size
    generalize w2.alloc (.cells #[.slice none 0 0, .slice none 0 0] 32) = w3 at *
    generalize w2.heap.size = q at *
    generalize hn : 32 + size * 2 = n at *
    have hn1 : n ≤ 600 := by omega
    obtain ⟨d, hd⟩ : ∃ d, L.d = d := ⟨_, rfl⟩
    rw [hd] at hR
    rw [hd]
    clear hD hfp k1 hL hs k2 kq hn hop k02
    go_loopw [8, 9, 11] (fun sv ev i wr => ∃ (j : Nat) (L : DL) (D : Dk) (s turn : Nat) (idx : List Nat) (tab : Tab) (m : MpL) (v1 v2 : Value), j ≤ ls.length ∧ sv = .pointer (some ⟨s, 0, none⟩) ∧ ev = .int .i64 0 ∧ i = .int .i64 j ∧ Hid (Round w d q n j wr L D s turn idx tab m v1 v2)) (fun _ _ i _ => ls.length - (intOf i).toNat)
    case atStart => exact ⟨0, L, _, s, 0, _, _, _, _, _, Nat.zero_le _, rfl, rfl, rfl, Lib.hid hR⟩
    case round =>
      obtain ⟨j, L, D, s, turn, idx, tab, m, v1, v2, hj, rfl, rfl, rfl, HR⟩ := hrel
      by_cases hjt : j < ls.length
      · have hR := HR.out
        obtain ⟨A1, c1, A2, c2, he⟩ := hR.map.form
        cases he
        obtain ⟨y0, y1, _⟩ := hR.blk.st2
        obtain ⟨b, off, vi, rfl, c0, hbs, hbl⟩ := hrow j hjt
        have hbw := World.block_lt_of_cell? w _ c0
        have c0 := cell_chg hR.same c0 (fun h => h)
        have hbs := hbs.same hR.same
        have hbT : ¬ (b = s ∨ L.fp b) := fun e => e.elim (fun e => by have := hR.hs; dsimp only at hbw; omega) (fun e => by have := hR.hfp b e; dsimp only at hbw; omega)
        have hqT : ¬ (q = s ∨ L.fp q) := fun e => e.elim (fun e => by
          obtain ⟨_, _, _, hsb, _⟩ := hR.live.store
          exact Blk.type_ne hsb hR.blk (by decide) e.symm) (hR.live.disk.ne_of hR.blk (by decide) (by decide) (by decide))
        have hd := hR.hd
        subst hd
        have hputs := fun W (k : Same wr W) => (puts_spec (hbs.same k) hbl).mono (R' := fun e w' => ∃ v' l, e = .returned v' ∧ PutsAt w' v' l ∧ RowFrom (Away w' L s) v' ∧ l.length ≤ 4 ∧ (∀ p ∈ l, p.key.length ≤ 300 ∧ p.blob.length ≤ 131072) ∧ Same W w') (fun e w' h => by
          obtain ⟨v', l, h1, h2, h3, h4, h5, h6, h7⟩ := h
          refine ⟨v', l, h1, h2, h3.mono (fun b hb => ⟨hb.2, fun e => ?_, fun e => ?_⟩), h4, h6, h7⟩
          · have := hR.live.s_lt; have := k.size; omega
          · have := hR.live.disk.fp_lt e; have := k.size; omega)
        have hstep := fun W (k : Same wr W) vp l (hp : PutsAt W vp l) (hpf : RowFrom (Away W L s) vp) (hl : l.length ≤ 4) (hz : ∀ p ∈ l, p.key.length ≤ 300 ∧ p.blob.length ≤ 131072) => step_spec (hR.live.same k) hR.fuse (hR.map.same k) (hR.from'.mono (Away.same k)) hp hpf (by omega) (fun p hp => by have := hz p hp; omega) (by have := hR.turn; omega)
        have hN : ∀ x, wr.heap.size ≤ x → ¬ (x = s ∨ L.fp x) := fun x hx e => e.elim (fun e => by have := hR.live.s_lt; omega) (fun e => by have := hR.live.disk.fp_lt e; omega)
        have hqw := hR.blk.lt
        have hbw2 := World.block_lt_of_cell? wr _ c0
        clear hrow
        dsimp only at hbw2
        go_wp2
        refine wp_region_noPanic ?_
        refine regionL (fun w' => w'.cell? ⟨q, 0, none⟩ = some (.slice A1 m.length c1) ∧ w'.cell? ⟨q, 1, none⟩ = some (.slice A2 m.length c2) ∧ w'.cell? ⟨b, off + j, none⟩ = some vi) (fun w' => True) 13 (by kernel_rfl) (⟨y0, y1, c0⟩) (trivial) (fun hSK => ?_)
        refine takeK0 (i := 0) (v := ?v14) rfl (by kernel_rfl) (by kernel_rfl) (by kernel_rfl) rfl (fun _ _ _ h => h) (Or.inl ⟨by rfl, ?h14⟩) hSK (fun hSK => ?_)
        case h14 => intro w hSw; obtain ⟨hd0, hd1⟩ := hSw; first | (go_simp; done) | (go_simp; with_reducible rfl)
        try simp only [Act.put, List.setIfInBounds_toArray, List.set_cons_zero, List.set_cons_succ]
        refine takeK0 (i := 1) (v := ?v15) rfl (by kernel_rfl) (by kernel_rfl) (by kernel_rfl) rfl (fun _ _ _ h => h) (Or.inl ⟨by rfl, ?h15⟩) hSK (fun hSK => ?_)
        case h15 => intro w hSw; obtain ⟨hd0, hd1⟩ := hSw; first | (go_simp; done) | (go_simp; with_reducible rfl)
        try simp only [Act.put, List.setIfInBounds_toArray, List.set_cons_zero, List.set_cons_succ]
        refine takeK0 (i := 2) (v := ?v16) rfl (by kernel_rfl) (by kernel_rfl) (by kernel_rfl) rfl (fun _ _ _ h => h) (Or.inl ⟨by rfl, ?h16⟩) hSK (fun hSK => ?_)
        case h16 => intro w hSw; obtain ⟨hd0, hd1, hd2⟩ := hSw; first | (go_simp; done) | (go_simp; with_reducible rfl)
        try simp only [Act.put, List.setIfInBounds_toArray, List.set_cons_zero, List.set_cons_succ]
        refine takeK0 (i := 3) (v := ?v17) rfl (by kernel_rfl) (by kernel_rfl) (by kernel_rfl) rfl (fun _ _ _ h => h) (Or.inl ⟨by rfl, ?h17⟩) hSK (fun hSK => ?_)
        case h17 => intro w hSw; obtain ⟨hd0, hd1⟩ := hSw; first | (go_simp; done) | (go_simp; with_reducible rfl)
        try simp only [Act.put, List.setIfInBounds_toArray, List.set_cons_zero, List.set_cons_succ]
        refine takeK0 (i := 4) (v := ?v18) rfl (by kernel_rfl) (by kernel_rfl) (by kernel_rfl) rfl (fun _ _ _ h => h) (Or.inl ⟨by rfl, ?h18⟩) hSK (fun hSK => ?_)
        case h18 => intro w hSw; obtain ⟨hd0, hd1⟩ := hSw; first | (go_simp; done) | (go_simp; with_reducible rfl)
        try simp only [Act.put, List.setIfInBounds_toArray, List.set_cons_zero, List.set_cons_succ]
        refine takeK0 (i := 5) (v := ?v19) rfl (by kernel_rfl) (by kernel_rfl) (by kernel_rfl) rfl (fun _ _ _ h => h) (Or.inl ⟨by rfl, ?h19⟩) hSK (fun hSK => ?_)
        case h19 => intro w hSw; obtain ⟨hd0, hd1⟩ := hSw; first | (go_simp; done) | (go_simp; with_reducible rfl)
        try simp only [Act.put, List.setIfInBounds_toArray, List.set_cons_zero, List.set_cons_succ]
        refine takeK0 (i := 6) (v := ?v20) rfl (by kernel_rfl) (by kernel_rfl) (by kernel_rfl) rfl (fun _ _ _ h => h) (Or.inl ⟨by rfl, ?h20⟩) hSK (fun hSK => ?_)
        case h20 => intro w hSw; obtain ⟨hd0, hd1, hd2⟩ := hSw; first | (go_simp; done) | (go_simp; with_reducible rfl)
        try simp only [Act.put, List.setIfInBounds_toArray, List.set_cons_zero, List.set_cons_succ]
        refine readyL2 (i := 7) (j := 12) (by kernel_rfl) rfl rfl (fun K hK => ?a21) (fun K hK => ?b21)
        case' a21 =>
          rw [if_pos (by rfl)]
          go_simp
          refine (hputs _ ((Chg.refl _ wr).drew)).mono ?_
          rintro e w4 ⟨vp, l, rfl, hpl, hpf, hl4, hsm, k4⟩
          have kw4 : Same wr w4 := (Chg.refl _ wr).drew.trans k4
          refine hK.out _ _ (SK.both ⟨cell_chg (S := fun k => k = s ∨ L.fp k) (Chg.of_same kw4) y0 hqT, cell_chg (S := fun k => k = s ∨ L.fp k) (Chg.of_same kw4) y1 hqT, cell_chg (S := fun k => k = s ∨ L.fp k) (Chg.of_same kw4) c0 hbT⟩ trivial _) (fun hSK => ?_)
          clear hK K
          try simp only [Act.put, List.setIfInBounds_toArray, List.set_cons_zero, List.set_cons_succ]
          refine readyL2 (i := 8) (j := 12) (by kernel_rfl) rfl rfl (fun K hK => ?a9) (fun K hK => ?b9)
          case' a9 =>
            rw [if_pos (by rfl)]
            go_simp
            refine (hstep _ (kw4) vp l (hpl) (hpf) hl4 hsm).mono ?_
            rintro e w5 ⟨v', L', D', turn', idx', tab', m', rfl, hL', hfu', hlen', hm', hf', hd', _, hfp', kst, htu', _⟩
            obtain ⟨B1, d1, B2, d2, rfl⟩ := hm'.form
            dsimp only
            have ks : Chg (fun k => k = s ∨ L.fp k) wr w5 := (Chg.of_same kw4).trans kst
            refine hK.out _ _ (SK.both ⟨cell_chg (S := fun k => k = s ∨ L.fp k) ks y0 hqT, cell_chg (S := fun k => k = s ∨ L.fp k) ks y1 hqT, cell_chg (S := fun k => k = s ∨ L.fp k) ks c0 hbT⟩ trivial _) (fun hSK => ?_)
            clear hK K
            try simp only [Act.put, List.setIfInBounds_toArray, List.set_cons_zero, List.set_cons_succ]
            refine takeK0 (i := 9) (v := ?v1) rfl (by kernel_rfl) (by kernel_rfl) (by kernel_rfl) rfl (fun _ _ _ h => h) (Or.inl ⟨by rfl, ?h1⟩) hSK (fun hSK => ?_)
            case h1 => intro w hSw; obtain ⟨hd0, hd1⟩ := hSw; first | (go_simp; done) | (go_simp; with_reducible rfl)
            try simp only [Act.put, List.setIfInBounds_toArray, List.set_cons_zero, List.set_cons_succ]
            refine takeK0 (i := 10) (v := ?v2) rfl (by kernel_rfl) (by kernel_rfl) (by kernel_rfl) rfl (fun _ _ _ h => h) (Or.inl ⟨by rfl, ?h2⟩) hSK (fun hSK => ?_)
            case h2 => intro w hSw; obtain ⟨hd0, hd1⟩ := hSw; first | (go_simp; done) | (go_simp; with_reducible rfl)
            try simp only [Act.put, List.setIfInBounds_toArray, List.set_cons_zero, List.set_cons_succ]
            refine takeK0 (i := 11) (v := ?v3) rfl (by kernel_rfl) (by kernel_rfl) (by kernel_rfl) rfl (fun _ _ _ h => h) (Or.inl ⟨by rfl, ?h3⟩) hSK (fun hSK => ?_)
            case h3 => intro w hSw; obtain ⟨hd0, hd1⟩ := hSw; first | (go_simp; done) | (go_simp; with_reducible rfl)
            try simp only [Act.put, List.setIfInBounds_toArray, List.set_cons_zero, List.set_cons_succ]
            refine readyL (i := 12) (by kernel_rfl) rfl (fun K hK => ?_)
            rw [if_pos (by rfl)]
            go_simp
            refine hK.out _ _ (SK.both ⟨cell_chg (S := fun k => k = s ∨ L.fp k) (ks.alloc _) y0 hqT, cell_chg (S := fun k => k = s ∨ L.fp k) (ks.alloc _) y1 hqT, cell_chg (S := fun k => k = s ∨ L.fp k) (ks.alloc _) c0 hbT⟩ trivial _) (fun hSK => ?_)
            clear hK K
            try simp only [Act.put, List.setIfInBounds_toArray, List.set_cons_zero, List.set_cons_succ]
            refine readyL (i := 13) (by kernel_rfl) rfl (fun K hK => ?_)
            rw [if_pos (by rfl)]
            go_simp
            refine hK.out _ _ (SK.both ⟨cell_chg (S := fun k => k = s ∨ L.fp k) (ks.alloc _) y0 hqT, cell_chg (S := fun k => k = s ∨ L.fp k) (ks.alloc _) y1 hqT, cell_chg (S := fun k => k = s ∨ L.fp k) (ks.alloc _) c0 hbT⟩ trivial _) (fun hSK => ?_)
            clear hK K
            try simp only [Act.put, List.setIfInBounds_toArray, List.set_cons_zero, List.set_cons_succ]
            refine takeK0 (i := 14) (v := ?v4) rfl (by kernel_rfl) (by kernel_rfl) (by kernel_rfl) rfl (fun _ _ _ h => h) (Or.inl ⟨by rfl, ?h4⟩) hSK (fun hSK => ?_)
            case h4 => intro w hSw; obtain ⟨hd0, hd1⟩ := hSw; first | (go_simp; done) | (go_simp; with_reducible rfl)
            try simp only [Act.put, List.setIfInBounds_toArray, List.set_cons_zero, List.set_cons_succ]
            refine doneL (by kernel_rfl) ?_ _
            refine NoPanic.normal ?_
            have hA := after_alloc hR hL' hm' hf' ks
            obtain ⟨x, hx⟩ : ∃ x, x = w5.heap.size := ⟨_, rfl⟩
            rw [← hx] at hA ⊢
            generalize w5.alloc (.cells #[.slice B1 m'.length d1, .slice B2 m'.length d2] 32) = W at *
            clear hx
          case' b9 =>
            rw [if_pos (by rfl)]
            go_simp
            refine hK.out _ _ (SK.both ⟨cell_chg (S := fun k => k = s ∨ L.fp k) (Chg.of_same (kw4.alloc _)) y0 hqT, cell_chg (S := fun k => k = s ∨ L.fp k) (Chg.of_same (kw4.alloc _)) y1 hqT, cell_chg (S := fun k => k = s ∨ L.fp k) (Chg.of_same (kw4.alloc _)) c0 hbT⟩ trivial _) (fun hSK => ?_)
            clear hK K
            try simp only [Act.put, List.setIfInBounds_toArray, List.set_cons_zero, List.set_cons_succ]
            refine readyL (i := 8) (by kernel_rfl) rfl (fun K hK => ?_)
            rw [if_pos (by rfl)]
            go_simp
            refine (hstep _ (kw4.alloc _) vp l (hpl.same ((Chg.refl _ w4).alloc _)) (hpf.mono (Away.same ((Chg.refl _ w4).alloc _))) hl4 hsm).mono ?_
            rintro e w5 ⟨v', L', D', turn', idx', tab', m', rfl, hL', hfu', hlen', hm', hf', hd', _, hfp', kst, htu', _⟩
            obtain ⟨B1, d1, B2, d2, rfl⟩ := hm'.form
            dsimp only
            have ks : Chg (fun k => k = s ∨ L.fp k) wr w5 := (Chg.of_same (kw4.alloc _)).trans kst
            have hz2 := (Blk.new w4 32 [.slice none 0 0, .slice none 0 0]).chg kst (hN _ kw4.size)
            obtain ⟨z0, z1, z2, z3, z4, z5⟩ := hz2.st2
            have hwz := kw4.size
            refine hK.out _ _ (SK.both ⟨cell_chg (S := fun k => k = s ∨ L.fp k) ks y0 hqT, cell_chg (S := fun k => k = s ∨ L.fp k) ks y1 hqT, cell_chg (S := fun k => k = s ∨ L.fp k) ks c0 hbT⟩ trivial _) (fun hSK => ?_)
            clear hK K
            try simp only [Act.put, List.setIfInBounds_toArray, List.set_cons_zero, List.set_cons_succ]
            refine takeK0 (i := 9) (v := ?v5) rfl (by kernel_rfl) (by kernel_rfl) (by kernel_rfl) rfl (fun _ _ _ h => h) (Or.inl ⟨by rfl, ?h5⟩) hSK (fun hSK => ?_)
            case h5 => intro w hSw; obtain ⟨hd0, hd1⟩ := hSw; first | (go_simp; done) | (go_simp; with_reducible rfl)
            try simp only [Act.put, List.setIfInBounds_toArray, List.set_cons_zero, List.set_cons_succ]
            refine takeK0 (i := 10) (v := ?v6) rfl (by kernel_rfl) (by kernel_rfl) (by kernel_rfl) rfl (fun _ _ _ h => h) (Or.inl ⟨by rfl, ?h6⟩) hSK (fun hSK => ?_)
            case h6 => intro w hSw; obtain ⟨hd0, hd1⟩ := hSw; first | (go_simp; done) | (go_simp; with_reducible rfl)
            try simp only [Act.put, List.setIfInBounds_toArray, List.set_cons_zero, List.set_cons_succ]
            refine takeK0 (i := 11) (v := ?v7) rfl (by kernel_rfl) (by kernel_rfl) (by kernel_rfl) rfl (fun _ _ _ h => h) (Or.inl ⟨by rfl, ?h7⟩) hSK (fun hSK => ?_)
            case h7 => intro w hSw; obtain ⟨hd0, hd1⟩ := hSw; first | (go_simp; done) | (go_simp; with_reducible rfl)
            try simp only [Act.put, List.setIfInBounds_toArray, List.set_cons_zero, List.set_cons_succ]
            refine readyL (i := 13) (by kernel_rfl) rfl (fun K hK => ?_)
            rw [if_pos (by rfl)]
            go_simp
            refine hK.out _ _ (SK.both ⟨cell_chg (Chg.put2 w5 w4.heap.size _ _) (cell_chg (S := fun k => k = s ∨ L.fp k) ks y0 hqT) (show q ≠ w4.heap.size from by omega), cell_chg (Chg.put2 w5 w4.heap.size _ _) (cell_chg (S := fun k => k = s ∨ L.fp k) ks y1 hqT) (show q ≠ w4.heap.size from by omega), cell_chg (Chg.put2 w5 w4.heap.size _ _) (cell_chg (S := fun k => k = s ∨ L.fp k) ks c0 hbT) (show b ≠ w4.heap.size from by omega)⟩ trivial _) (fun hSK => ?_)
            clear hK K
            try simp only [Act.put, List.setIfInBounds_toArray, List.set_cons_zero, List.set_cons_succ]
            refine takeK0 (i := 14) (v := ?v8) rfl (by kernel_rfl) (by kernel_rfl) (by kernel_rfl) rfl (fun _ _ _ h => h) (Or.inl ⟨by rfl, ?h8⟩) hSK (fun hSK => ?_)
            case h8 => intro w hSw; obtain ⟨hd0, hd1⟩ := hSw; first | (go_simp; done) | (go_simp; with_reducible rfl)
            try simp only [Act.put, List.setIfInBounds_toArray, List.set_cons_zero, List.set_cons_succ]
            refine doneL (by kernel_rfl) ?_ _
            refine NoPanic.normal ?_
            have hA := after_put hR hL' hm' hf' ks (kw4.size) hz2
            obtain ⟨x, hx⟩ : ∃ x, x = w4.heap.size := ⟨_, rfl⟩
            rw [← hx] at hA ⊢
            generalize (w5.setCell ⟨x, 0, none⟩ (.slice B1 m'.length d1)).setCell ⟨x, 1, none⟩ (.slice B2 m'.length d2) = W at *
            clear hx
        case' b21 =>
          rw [if_pos (by rfl)]
          go_simp
          refine hK.out _ _ (SK.both ⟨cell_chg (S := fun k => k = s ∨ L.fp k) ((Chg.refl _ wr).drew.alloc _) y0 hqT, cell_chg (S := fun k => k = s ∨ L.fp k) ((Chg.refl _ wr).drew.alloc _) y1 hqT, cell_chg (S := fun k => k = s ∨ L.fp k) ((Chg.refl _ wr).drew.alloc _) c0 hbT⟩ trivial _) (fun hSK => ?_)
          clear hK K
          try simp only [Act.put, List.setIfInBounds_toArray, List.set_cons_zero, List.set_cons_succ]
          refine readyL (i := 7) (by kernel_rfl) rfl (fun K hK => ?_)
          rw [if_pos (by rfl)]
          go_simp
          refine (hputs _ ((Chg.refl _ wr).drew.alloc _)).mono ?_
          rintro e w4 ⟨vp, l, rfl, hpl, hpf, hl4, hsm, k4⟩
          have kw4 : Same wr w4 := ((Chg.refl _ wr).drew.alloc _).trans k4
          have hz1 : Blk w4 wr.heap.size 32 [.slice none 0 0, .slice none 0 0] := (Blk.new wr.drew 32 _).same k4
          refine hK.out _ _ (SK.both ⟨cell_chg (S := fun k => k = s ∨ L.fp k) (Chg.of_same kw4) y0 hqT, cell_chg (S := fun k => k = s ∨ L.fp k) (Chg.of_same kw4) y1 hqT, cell_chg (S := fun k => k = s ∨ L.fp k) (Chg.of_same kw4) c0 hbT⟩ trivial _) (fun hSK => ?_)
          clear hK K
          try simp only [Act.put, List.setIfInBounds_toArray, List.set_cons_zero, List.set_cons_succ]
          refine readyL (i := 8) (by kernel_rfl) rfl (fun K hK => ?_)
          rw [if_pos (by rfl)]
          go_simp
          refine (hstep _ (kw4) vp l (hpl) (hpf) hl4 hsm).mono ?_
          rintro e w5 ⟨v', L', D', turn', idx', tab', m', rfl, hL', hfu', hlen', hm', hf', hd', _, hfp', kst, htu', _⟩
          obtain ⟨B1, d1, B2, d2, rfl⟩ := hm'.form
          dsimp only
          have ks : Chg (fun k => k = s ∨ L.fp k) wr w5 := (Chg.of_same kw4).trans kst
          have hz2 := hz1.chg kst (hN _ (Nat.le_refl _))
          obtain ⟨z0, z1, z2, z3, z4, z5⟩ := hz2.st2
          refine hK.out _ _ (SK.both ⟨cell_chg (S := fun k => k = s ∨ L.fp k) ks y0 hqT, cell_chg (S := fun k => k = s ∨ L.fp k) ks y1 hqT, cell_chg (S := fun k => k = s ∨ L.fp k) ks c0 hbT⟩ trivial _) (fun hSK => ?_)
          clear hK K
          try simp only [Act.put, List.setIfInBounds_toArray, List.set_cons_zero, List.set_cons_succ]
          refine takeK0 (i := 9) (v := ?v10) rfl (by kernel_rfl) (by kernel_rfl) (by kernel_rfl) rfl (fun _ _ _ h => h) (Or.inl ⟨by rfl, ?h10⟩) hSK (fun hSK => ?_)
          case h10 => intro w hSw; obtain ⟨hd0, hd1⟩ := hSw; first | (go_simp; done) | (go_simp; with_reducible rfl)
          try simp only [Act.put, List.setIfInBounds_toArray, List.set_cons_zero, List.set_cons_succ]
          refine takeK0 (i := 10) (v := ?v11) rfl (by kernel_rfl) (by kernel_rfl) (by kernel_rfl) rfl (fun _ _ _ h => h) (Or.inl ⟨by rfl, ?h11⟩) hSK (fun hSK => ?_)
          case h11 => intro w hSw; obtain ⟨hd0, hd1⟩ := hSw; first | (go_simp; done) | (go_simp; with_reducible rfl)
          try simp only [Act.put, List.setIfInBounds_toArray, List.set_cons_zero, List.set_cons_succ]
          refine takeK0 (i := 11) (v := ?v12) rfl (by kernel_rfl) (by kernel_rfl) (by kernel_rfl) rfl (fun _ _ _ h => h) (Or.inl ⟨by rfl, ?h12⟩) hSK (fun hSK => ?_)
          case h12 => intro w hSw; obtain ⟨hd0, hd1⟩ := hSw; first | (go_simp; done) | (go_simp; with_reducible rfl)
          try simp only [Act.put, List.setIfInBounds_toArray, List.set_cons_zero, List.set_cons_succ]
          refine readyL (i := 13) (by kernel_rfl) rfl (fun K hK => ?_)
          rw [if_pos (by rfl)]
          go_simp
          refine hK.out _ _ (SK.both ⟨cell_chg (Chg.put2 w5 wr.heap.size _ _) (cell_chg (S := fun k => k = s ∨ L.fp k) ks y0 hqT) (show q ≠ wr.heap.size from by omega), cell_chg (Chg.put2 w5 wr.heap.size _ _) (cell_chg (S := fun k => k = s ∨ L.fp k) ks y1 hqT) (show q ≠ wr.heap.size from by omega), cell_chg (Chg.put2 w5 wr.heap.size _ _) (cell_chg (S := fun k => k = s ∨ L.fp k) ks c0 hbT) (show b ≠ wr.heap.size from by omega)⟩ trivial _) (fun hSK => ?_)
          clear hK K
          try simp only [Act.put, List.setIfInBounds_toArray, List.set_cons_zero, List.set_cons_succ]
          refine takeK0 (i := 14) (v := ?v13) rfl (by kernel_rfl) (by kernel_rfl) (by kernel_rfl) rfl (fun _ _ _ h => h) (Or.inl ⟨by rfl, ?h13⟩) hSK (fun hSK => ?_)
          case h13 => intro w hSw; obtain ⟨hd0, hd1⟩ := hSw; first | (go_simp; done) | (go_simp; with_reducible rfl)
          try simp only [Act.put, List.setIfInBounds_toArray, List.set_cons_zero, List.set_cons_succ]
          refine doneL (by kernel_rfl) ?_ _
          refine NoPanic.normal ?_
          have hA := after_put hR hL' hm' hf' ks (Nat.le_refl _) hz2
          obtain ⟨x, hx⟩ : ∃ x, x = wr.heap.size := ⟨_, rfl⟩
          rw [← hx] at hA ⊢
          generalize (w5.setCell ⟨x, 0, none⟩ (.slice B1 m'.length d1)).setCell ⟨x, 1, none⟩ (.slice B2 m'.length d2) = W at *
          clear hx
        all_goals
          have hq4 : w.heap.size ≤ w4.heap.size := Nat.le_trans hR.same.size kw4.size
          obtain ⟨x0, x1, _⟩ := hA.bx.st2
          obtain ⟨t0, t1, t2, t3, t4, t5⟩ := hA.bq.st2
          have hR2 := hR.next hA hq hfu' hlen' hd' hfp' (by first | exact hq4 | (rw [World.size_alloc]; omega)) htu'
          have hop := open_live hR2.live.disk hR2.live.dg
          rw [hR2.hd] at hop
          have hml : m'.length ≤ 1000000 := by have := hR2.live.dg.msmall; omega
          have his := fun W (k : LiveM W L' s D' turn' idx' tab' m') => True
          obtain ⟨r0, r1, _⟩ := hR2.blk.st2
          clear hA hputs hstep hR hL' hm' hf' hpl hpf hsm kst ks hfp' y0 y1 c0 hbs hSK his hN hqT hbT
          go_wp2_with (first
            | (go_at_call 13; refine hop.mono ?_; rintro e w6 ⟨s2, rfl, hL6, hs6, k6⟩; have hR3 := hR2.reopen k6 hL6 hs6; obtain ⟨r0, r1, _⟩ := hR3.blk.st2)
            | (go_at_call 14; refine (err_spec _ _).mono ?_; rintro e w7 ⟨rfl, rfl⟩)
            | (go_at_call 17; refine (is_spec hR3.live hR3.map hml).mono ?_; rintro e w8 ⟨rfl, k8⟩; rw [decide_eq_true rfl]; have hR4 := hR3.then_same k8))
          · exact ⟨⟨j + 1, L', D', s2, turn', idx', tab', m', _, _, by omega, rfl, rfl, rfl, Lib.hid hR4⟩, by simp only [intOf]; omega⟩
          · exact ⟨⟨j + 1, L', D', s, turn', idx', tab', m', _, _, by omega, rfl, rfl, rfl, Lib.hid hR2⟩, by simp only [intOf]; omega⟩
      · have hR := HR.out
        obtain ⟨A1, c1, A2, c2, he⟩ := hR.map.form
        cases he
        obtain ⟨y0, y1, _⟩ := hR.blk.st2
        have hml : m.length ≤ 1000000 := by have := hR.live.dg.msmall; omega
        have hk := hR.same
        clear hrow
        go_wp2_with (first
          | (go_at_call 17; refine (is_spec hR.live hR.map hml).mono ?_; rintro e w8 ⟨rfl, k8⟩; rw [decide_eq_true rfl])
          | (go_at_call 12; refine (awake_spec _).mono ?_; rintro e w9 ⟨rfl, k9⟩))
        go_ret
        exact ⟨rfl, (hk.trans k8).trans k9⟩
end Go.Proofs.Obj

namespace Go.Proofs.YtiiinmleiigckaaGreatDoor
open Go.ChangeShapes Go.WideShapes Go.ChangeAt Go.RowKit Go.Proofs.Obj

set_option maxRecDepth 100000 in
/-- WHAT THE WALK GIVES, FOR EVERY ARGUMENT. -/
theorem runs_contract (H : Type) (enc : TypeId × Value → H) (W : World) (base : Nat) (args : Array Value) (ds gs : List (DataW H)) (before : List MemPlace)
    (hval : ∀ (j : Nat) t v, Tryz.f3.params[j]? = some t → args[j]? = some v → Value.okWide Tryz.prog W .any base t v)
    (hW : DataW.Whole enc Tryz.prog Tryz.f3.params.toList Rows.objectsRunsSpec.vars false W args.toList ds gs before)
    (hz : (DataW.weightsEach Tryz.prog (Tryz.f3.params.toList ++ (OpenSpec.ofChange Rows.objectsRunsSpec).bare.plain.varTypes Tryz.prog) (ds ++ gs)).all (· ≤ reachBytes) = true) :
    Calls Tryz.prog 3 args W fun e W' => ∃ v, e = .returned v ∧ Rows.objectsRunsSpec.post enc Tryz.prog Tryz.f3 false true false false W args v W' := by
  have hW' := hW
  obtain ⟨p, q, hA0, hV, rfl, hfz, hnd⟩ := hW
  have hA : DataW.TrodAll enc Tryz.prog W 0 (fun _ => true) true Tryz.f3.params.toList args.toList ds p := hA0
  rw [Tryz.params3] at hA hval
  obtain ⟨v0, v1, v2, d0, d1, d2, p0, p1, p2, rfl, rfl, rfl, h0, h1, h2⟩ := trodAll_three hA
  obtain ⟨rfl, rfl⟩ := trodVars_none hV
  obtain ⟨a0, rfl, rfl, rfl, w0⟩ := open_int Tryz.underlying5 (hval 0 5 v0 rfl rfl) h0
  obtain ⟨b0, len, cap, rfl⟩ := okWide_slice Tryz.underlying22 (hval 1 22 v1 rfl rfl)
  obtain ⟨a2, rfl, rfl, rfl, w2⟩ := open_int Tryz.underlying5 (hval 2 5 v2 rfl rfl) h2
  clear hA0
  obtain ⟨ls, hls, hll⟩ := open_byteRows h1 (fun n hn => by
    have := List.all_eq_true.1 hz n (DataW.weights_mem_each (j := 1) (t := 22) (d := d1) rfl rfl n hn)
    simpa using this)
  obtain ⟨n0, rfl, hn0⟩ := open_u8 w0
  obtain ⟨n2, rfl, hn2⟩ := open_u8 w2
  simp only [List.append_nil] at hW'
  refine (runs_walk hn0 hn2 hls hll).mono fun e W' ⟨he, hg⟩ => ?_
  subst he
  have hB := Chg.same_below hg
  refine ⟨_, rfl, _, _, _, [], _, [], hW', trodAll_mk1 (shut_bool Tryz.underlying4 _), trodAll_mk3 (shut_int Tryz.underlying5 w0) (Below.trod laidOutT (by kernel_rfl) (of_decide_eq_true (by kernel_rfl)) h1 hB (fun x hx => hW'.lt x (by simp [hx]))) (shut_int Tryz.underlying5 w2), rfl, hB.frame _, fun h => by cases h⟩

abbrev runsArgs : Array Value := #[.int .u8 0, .slice none 0 0, .int .u8 0]
theorem runs_laid (os : Os) : laidMet Tryz.prog Rows.objectsRunsRow.laid ((laidWorld os).forCall (fun _ _ => 0) ⟨#[], runsArgs, []⟩).memory :=
  laidMet_of_run' 8 (by kernel_rfl) (by kernel_rfl)
theorem runs_reads (os : Os) {H : Type} (enc : TypeId × Value → H) : ∃ places, DataW.whole enc Tryz.prog ((laidWorld os).forCall (fun _ _ => 0) ⟨#[], runsArgs, []⟩).memory Tryz.f3.params.toList Rows.objectsRunsSpec.vars false runsArgs.toList 8 = some ([.lit (.int .u8 0), .nil, .lit (.int .u8 0)], [], places) :=
  ⟨[], by kernel_rfl⟩

set_option maxRecDepth 100000 in
theorem runs_lifted (os : Os) (started : os.Started) (H : Type) (enc : TypeId × Value → H) (F : Stop.Interp) :
    ReturnsInHanded {} Tryz.checked os 3 .any ((OpenSpec.ofChange Rows.objectsRunsSpec).preRow enc Tryz.prog Tryz.f3 Rows.objectsRunsRow.domain false Rows.objectsRunsRow.laid) (((OpenSpec.ofChange Rows.objectsRunsSpec).at F).post enc Tryz.prog Tryz.f3 false true false false) := by
  obtain ⟨places, hx⟩ := runs_reads os enc
  refine returnsInHanded_of_row (C := Tryz.checked) (s := OpenSpec.ofChange Rows.objectsRunsSpec) ownT started (by kernel_rfl) Tryz.func3
    (witness_row_at (enc := enc) (C := Tryz.checked) false (laidWorld os) runsArgs rfl (by kernel_rfl) (by kernel_rfl) (by kernel_rfl)
      (OpenSpec.preRow_of_cond 8 hx (by kernel_rfl) (fun k hk => by cases hk) (by kernel_rfl) (runs_laid os))) ?_
  intro W base args ds gs before hval hW _ _ hz _ _ _
  exact runs_contract H enc W base args ds gs before hval hW hz

theorem runs_said : Rows.ObjectsRunsSaid :=
  OpenClaim.holds_of_cond 3 Tryz.f3 rfl rfl rfl rfl rfl rfl rfl ⟨rfl, rfl, rfl, rfl, rfl⟩ rfl rfl rfl rfl rfl (by kernel_rfl) Tryz.func3 (by kernel_rfl)
    (of_decide_eq_true (by kernel_rfl)) (by unfold Func.isWrapper; first | (rw [if_pos (by decide +kernel)]; kernel_rfl) | (rw [if_neg (by decide +kernel)]; exact ⟨rfl, rfl⟩))
    (fun os started H enc _ F => by rw [OpenClaim.pre_eq_preRow]; exact runs_lifted os started H enc F)

theorem runs_plain (f : FuncId) (fn : Func) (hf : Tryz.pinned.checked.prog.funcNamed "shelfmark/shelfmarklaw17.ObjectsRuns" = some f) (hfn : Tryz.pinned.checked.prog.funcs[f]? = some fn) :
    true = Tryz.pinned.checked.prog.looks [] ∧ ∀ (j : Nat) t, fn.params[j]? = some t → Tryz.pinned.checked.prog.wantsStandIn t = false := by
  obtain rfl : f = 3 := Option.some.inj ((show Tryz.prog.funcNamed "shelfmark/shelfmarklaw17.ObjectsRuns" = some 3 by kernel_rfl).symm.trans hf) |>.symm
  obtain rfl : fn = Tryz.f3 := (Option.some.inj (Tryz.func3.symm.trans hfn)).symm
  refine ⟨by kernel_rfl, fun j t ht => ?_⟩
  rw [Tryz.params3] at ht
  have ht2 := Array.mem_of_getElem? ht
  simp only [List.mem_toArray, List.mem_cons, List.not_mem_nil, or_false] at ht2
  rcases ht2 with rfl | rfl | rfl
  · exact (show Tryz.prog.wantsStandIn 5 = false by kernel_rfl)
  · exact (show Tryz.prog.wantsStandIn 22 = false by kernel_rfl)
  · exact (show Tryz.prog.wantsStandIn 5 = false by kernel_rfl)

/-- THE CARD OF ObjectsRuns. -/
theorem objectsRuns_card : Rows.ObjectsRunsCardSaid :=
  Claim7.holds_tied_plain_at .later [] _ _ _ _ runs_said (fun _ h => by cases h) (by kernel_rfl) (fun _ h => by cases h) objectsRuns_row_tie rfl ⟨rfl, rfl⟩ (by kernel_rfl) rfl runs_plain (by kernel_rfl)
#print axioms objectsRuns_card
end Go.Proofs.YtiiinmleiigckaaGreatDoor
