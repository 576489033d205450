/- ObjectsRaw holds: whatever puts are committed on a disk of any size, all is as a map has it, but where there is no room. For every input; the card ties the two tables that the row lists. -/
import Derived.Test.YtiiinmleiigckaaGreatDoorGZB
import Derived.Test.YtiiinmleiigckaaGreatDoorGZC
import Derived.Deep.Strs
import Derived.Test.YtiiinmleiigckaaGreatDoorCards
import Derived.Test.YtiiinmleiigckaaGreatDoorTie
import Derived.Deep.DeepHandedRow
import Derived.Lib.LaidTab
set_option linter.unusedVariables false
set_option linter.unusedSimpArgs false

namespace Go.Proofs.Obj
open Go Go.RowKit Go.Shelf

/-- A slice of slices of puts. -/
def PutRows (W : World) (v : Value) (ls : List (List PutM)) : Prop := ∃ A cap, v = .slice A ls.length cap ∧ ∀ i (h : i < ls.length), ∃ b off vi, A = some ⟨b, off, none⟩ ∧ W.cell? ⟨b, off + i, none⟩ = some vi ∧ PutsAt W vi ls[i] ∧ (ls[i] = [] ∨ RowFrom (fun b => b < W.heap.size) vi) ∧ ls[i].length ≤ 140737488355328 ∧ ∀ p ∈ ls[i], p.key.length ≤ 140737488355328 ∧ p.blob.length ≤ 140737488355328
/-- Puts of which the statement speaks. -/
def RowOK (l : List PutM) : Prop := l.length ≤ 8 ∧ ∀ p ∈ l, p.key.length ≤ 400 ∧ p.blob.length ≤ 3000

set_option maxRecDepth 100000 in
set_option maxHeartbeats 4000000 in
theorem raw_walk {w : World} {size : Nat} {v : Value} {ls : List (List PutM)} (hsz : size < 256) (hls : PutRows w v ls) (hll : ls.length ≤ 140737488355328) :
    Calls Tryz.prog 4 #[.int .u8 size, v] w fun e w' => e = .returned (.bool true) ∧ Same w w' := by
  obtain ⟨A, cap, rfl, hrow⟩ := hls
  have hgo : ((10 : Int) < (ls.length : Int)) ∨ ls.length ≤ 10 := by omega
  go_enter Tryz.func4, Tryz.ntmps4
  go_wp2_with fail
  refine (disk_spec size hsz).mono ?_
  rintro e w1 ⟨L, rfl, hD, hfp, k1⟩
  rcases hgo with hgo | hgo
  · clear hrow hD
    go_wp2_with (first | (go_at_call 12; refine (awake_spec _).mono ?_; rintro e w2 ⟨rfl, k2⟩))
    go_ret
    exact ⟨rfl, k1.trans k2⟩
  · have hgo' : ¬ ((10 : Int) < (ls.length : Int)) := by omega
    have Hrow := Lib.hid hrow
    clear hrow
    go_wp2
    go_loopw [6] (fun i wr => ∃ j : Nat, j ≤ ls.length ∧ i = .int .i64 j ∧ Hid (∀ l ∈ ls.take j, RowOK l) ∧ Same w1 wr) (fun i _ => ls.length - (intOf i).toNat)
    case atStart => exact ⟨0, Nat.zero_le _, rfl, Lib.hid (by simp), .refl _ _⟩
    case round =>
      obtain ⟨j, hj, rfl, Hok, hch⟩ := hrel
      by_cases hjt : j < ls.length
      · obtain ⟨b, off, vi, rfl, c0, hpa, _, hl8, hpz⟩ := Hrow.out j hjt
        have k1r := k1.trans hch
        have c0 := cell_chg k1r c0 (fun h => h)
        have hpa := hpa.same k1r
        obtain ⟨A2, cap2, rfl, hr2⟩ := hpa
        have htk : ls.take (j + 1) = ls.take j ++ [ls[j]] := (List.take_append_getElem hjt).symm
        have Htk := Lib.hid htk
        clear htk
        generalize ls[j] = l at *
        have Hpz := Lib.hid hpz
        clear hpz
        go_wp2
        go_loopw [7] (fun i wr2 => ∃ k : Nat, k ≤ l.length ∧ i = .int .i64 k ∧ Hid ((0 < k → l.length ≤ 8) ∧ ∀ p ∈ l.take k, p.key.length ≤ 400 ∧ p.blob.length ≤ 3000) ∧ Same wr wr2) (fun i _ => l.length - (intOf i).toNat)
        case atStart => exact ⟨0, Nat.zero_le _, rfl, Lib.hid ⟨by omega, by simp⟩, .refl _ _⟩
        case round =>
          obtain ⟨k, hk, rfl, Hk, hch2⟩ := hrel
          have c0 := cell_chg hch2 c0 (fun h => h)
          by_cases hkt : k < l.length
          · have hpc : 0 < (putsCells l).length := by
              have := (List.getElem?_eq_some_iff.1 (putsCells_at l k hkt).1).1
              omega
            obtain ⟨bb, oo, rfl, hrr⟩ := (hr2.same hch2).at_ hpc
            have x0 := hrr _ _ (putsCells_at l k hkt).1
            have x1 := hrr _ _ (putsCells_at l k hkt).2.1
            rw [← Nat.add_assoc] at x1
            have hz := Hpz.out _ (List.getElem_mem hkt)
            have s1 := S_size l[k].key
            have s2 := S_size l[k].blob
            have htk2 : l.take (k + 1) = l.take k ++ [l[k]] := (List.take_append_getElem hkt).symm
            have Htk2 := Lib.hid htk2
            clear htk2 hpc
            by_cases b0 : 8 < l.length
            · have b0' : (8 : Int) < (l.length : Int) := by omega
              go_wp2_with (first | (go_at_call 12; refine (awake_spec _).mono ?_; rintro e w2 ⟨rfl, k2⟩))
              go_ret
              exact ⟨rfl, (k1r.trans hch2).trans k2⟩
            · have b0' : ¬ (8 : Int) < (l.length : Int) := by omega
              by_cases b1 : 400 < l[k].key.length
              · have b1' : (400 : Int) < (l[k].key.length : Int) := by omega
                go_wp2_with (first | (go_at_call 12; refine (awake_spec _).mono ?_; rintro e w2 ⟨rfl, k2⟩))
                go_ret
                exact ⟨rfl, (k1r.trans hch2).trans k2⟩
              · have b1' : ¬ (400 : Int) < (l[k].key.length : Int) := by omega
                by_cases b2 : 3000 < l[k].blob.length
                · have b2' : (3000 : Int) < (l[k].blob.length : Int) := by omega
                  go_wp2_with (first | (go_at_call 12; refine (awake_spec _).mono ?_; rintro e w2 ⟨rfl, k2⟩))
                  go_ret
                  exact ⟨rfl, (k1r.trans hch2).trans k2⟩
                · have b2' : ¬ (3000 : Int) < (l[k].blob.length : Int) := by omega
                  have hk2 : (0 < k + 1 → l.length ≤ 8) ∧ ∀ p ∈ l.take (k + 1), p.key.length ≤ 400 ∧ p.blob.length ≤ 3000 := by
                    refine ⟨fun _ => by omega, fun p hp => ?_⟩
                    rw [Htk2.out] at hp
                    rcases List.mem_append.1 hp with hp | hp
                    · exact Hk.out.2 p hp
                    · rw [List.mem_singleton] at hp; subst hp; omega
                  have Hk2 := Lib.hid hk2
                  clear hk2
                  go_wp2
                  exact ⟨⟨k + 1, by omega, rfl, Hk2, hch2⟩, by simp only [intOf]; omega⟩
          · obtain rfl : k = l.length := by omega
            have hok : ∀ x ∈ ls.take (j + 1), RowOK x := by
              intro x hx
              rw [Htk.out] at hx
              rcases List.mem_append.1 hx with hx | hx
              · exact Hok.out x hx
              · rw [List.mem_singleton] at hx
                subst hx
                have := Hk.out
                rw [List.take_of_length_le (Nat.le_refl _)] at this
                refine ⟨?_, this.2⟩
                by_cases h0 : 0 < x.length
                · exact this.1 h0
                · omega
            have Hok2 := Lib.hid hok
            clear hok
            go_wp2
            exact ⟨⟨j + 1, by omega, rfl, Hok2, hch.trans hch2⟩, by simp only [intOf]; omega⟩
      · obtain rfl : j = ls.length := by omega
        have hok := Hok.out
        rw [List.take_of_length_le (Nat.le_refl _)] at hok
        have Hok := Lib.hid hok
        clear hok
        have hD := hD.same hch
        have k1 := k1.trans hch
        have hop := open_live hD (new_good (n := 32 + size * 2) (by omega) (by omega))
        go_wp2_with (first
          | (go_at_call 13; refine hop.mono ?_; rintro e w2 ⟨s, rfl, hL, hs, k2⟩)
          | (go_at_call 14; refine (err_spec _ _).mono ?_; rintro e w3 ⟨rfl, rfl⟩))
        have k02 := k1.trans k2
        have kq : Same w2 (w2.alloc (.cells #[.slice none 0 0, .slice none 0 0] 32)) := (Chg.refl _ w2).alloc _
        have hR : Round w L.d w2.heap.size (32 + size * 2) 0 (w2.alloc (.cells #[.slice none 0 0, .slice none 0 0] 32)) L ⟨List.replicate (32 + size * 2) zero64, [], false, -1⟩ s 0 [] [] [] (.slice none 0 0) (.slice none 0 0) :=
          ⟨rfl, hL.same kq, rfl, by simp, Nat.le_refl _, Blk.new w2 32 _, ⟨_, _, rfl, ⟨none, 0, rfl, .inl rfl⟩, ⟨none, 0, rfl, .inl rfl⟩⟩, ⟨none, 0, 0, none, 0, 0, rfl, fun _ e => (by cases e), fun _ e => (by cases e)⟩, Nat.le_trans k1.size hs, hfp, k02.trans kq⟩
        have hq : w.heap.size ≤ w2.heap.size := k02.size
        generalize w2.alloc (.cells #[.slice none 0 0, .slice none 0 0] 32) = w3 at *
        generalize w2.heap.size = q at *
        generalize hn : 32 + size * 2 = n at *
        have hn1 : n ≤ 600 := by omega
        obtain ⟨d, hd⟩ : ∃ d, L.d = d := ⟨_, rfl⟩
        rw [hd] at hR
        rw [hd]
        clear hD hfp k1 hL hs k2 kq hn hop k02
        go_loopw [11] (fun i wr => ∃ (j : Nat) (L : DL) (D : Dk) (turn : Nat) (idx : List Nat) (tab : Tab) (m : MpL) (v1 v2 : Value), j ≤ ls.length ∧ i = .int .i64 j ∧ Hid (Round w d q n j wr L D s turn idx tab m v1 v2)) (fun i _ => ls.length - (intOf i).toNat)
        case atStart => exact ⟨0, L, _, 0, _, _, _, _, _, Nat.zero_le _, rfl, Lib.hid hR⟩
        case round =>
          obtain ⟨j, L, D, turn, idx, tab, m, v1, v2, hj, rfl, HR⟩ := hrel
          have hR := HR.out
          obtain ⟨A1, c1, A2, c2, he⟩ := hR.map.form
          cases he
          obtain ⟨y0, y1, _⟩ := hR.blk.st2
          by_cases hjt : j < ls.length
          · obtain ⟨b, off, vi, rfl, c0, hpa, hpf, hl8, hpz⟩ := Hrow.out j hjt
            have hbw : b < w.heap.size := World.block_lt_of_cell? w _ c0
            have c0 := cell_chg hR.same c0 (fun h => h)
            have hbT := hR.oldT b hbw
            have hqT := hR.qT
            have hN := hR.newT
            have hqw := hR.blk.lt
            have hbw2 : b < wr.heap.size := World.block_lt_of_cell? wr _ c0
            have hd := hR.hd
            subst hd
            have hrok := Hok.out _ (List.getElem_mem hjt)
            have hstep := fun W (k : Same wr W) => step_spec (hR.live.same k) hR.fuse (hR.map.same k) (hR.from'.mono (Away.same k)) (vl := vi) (l := ls[j]) (PutsAt.same hpa (hR.same.trans k)) (hpf.imp id (fun h => h.mono (fun b hb => ⟨Nat.lt_of_lt_of_le hb (hR.same.trans k).size, fun e => (hR.oldT b hb) (.inl e), fun e => (hR.oldT b hb) (.inr e)⟩))) (by have := hrok.1; omega) (fun p hp => by have := hrok.2 p hp; omega) (by have := hR.turn; omega)
            have hwz := hR.same.size
            clear hpa hpf hl8 hpz hrok
            generalize ls[j] = l at *
            go_wp2
            refine wp_region_noPanic ?_
            refine regionL (fun w' => w'.cell? ⟨q, 0, none⟩ = some (.slice A1 m.length c1) ∧ w'.cell? ⟨q, 1, none⟩ = some (.slice A2 m.length c2) ∧ w'.cell? ⟨b, off + j, none⟩ = some vi) (fun w' => True) 12 (by kernel_rfl) (⟨y0, y1, c0⟩) (trivial) (fun hSK => ?_)
            refine takeK0 (i := 0) (v := ?v9) rfl (by kernel_rfl) (by kernel_rfl) (by kernel_rfl) rfl (fun _ _ _ h => h) (Or.inl ⟨by rfl, ?h9⟩) hSK (fun hSK => ?_)
            case h9 => intro w hSw; obtain ⟨hd0, hd1⟩ := hSw; first | (go_simp; done) | (go_simp; with_reducible rfl)
            try simp only [Act.put, List.setIfInBounds_toArray, List.set_cons_zero, List.set_cons_succ]
            refine takeK0 (i := 1) (v := ?v10) rfl (by kernel_rfl) (by kernel_rfl) (by kernel_rfl) rfl (fun _ _ _ h => h) (Or.inl ⟨by rfl, ?h10⟩) hSK (fun hSK => ?_)
            case h10 => intro w hSw; obtain ⟨hd0, hd1⟩ := hSw; first | (go_simp; done) | (go_simp; with_reducible rfl)
            try simp only [Act.put, List.setIfInBounds_toArray, List.set_cons_zero, List.set_cons_succ]
            refine takeK0 (i := 2) (v := ?v11) rfl (by kernel_rfl) (by kernel_rfl) (by kernel_rfl) rfl (fun _ _ _ h => h) (Or.inl ⟨by rfl, ?h11⟩) hSK (fun hSK => ?_)
            case h11 => intro w hSw; obtain ⟨hd0, hd1, hd2⟩ := hSw; first | (go_simp; done) | (go_simp; with_reducible rfl)
            try simp only [Act.put, List.setIfInBounds_toArray, List.set_cons_zero, List.set_cons_succ]
            refine takeK0 (i := 3) (v := ?v12) rfl (by kernel_rfl) (by kernel_rfl) (by kernel_rfl) rfl (fun _ _ _ h => h) (Or.inl ⟨by rfl, ?h12⟩) hSK (fun hSK => ?_)
            case h12 => intro w hSw; obtain ⟨hd0, hd1⟩ := hSw; first | (go_simp; done) | (go_simp; with_reducible rfl)
            try simp only [Act.put, List.setIfInBounds_toArray, List.set_cons_zero, List.set_cons_succ]
            refine takeK0 (i := 4) (v := ?v13) rfl (by kernel_rfl) (by kernel_rfl) (by kernel_rfl) rfl (fun _ _ _ h => h) (Or.inl ⟨by rfl, ?h13⟩) hSK (fun hSK => ?_)
            case h13 => intro w hSw; obtain ⟨hd0, hd1⟩ := hSw; first | (go_simp; done) | (go_simp; with_reducible rfl)
            try simp only [Act.put, List.setIfInBounds_toArray, List.set_cons_zero, List.set_cons_succ]
            refine takeK0 (i := 5) (v := ?v14) rfl (by kernel_rfl) (by kernel_rfl) (by kernel_rfl) rfl (fun _ _ _ h => h) (Or.inl ⟨by rfl, ?h14⟩) hSK (fun hSK => ?_)
            case h14 => intro w hSw; obtain ⟨hd0, hd1⟩ := hSw; first | (go_simp; done) | (go_simp; with_reducible rfl)
            try simp only [Act.put, List.setIfInBounds_toArray, List.set_cons_zero, List.set_cons_succ]
            refine takeK0 (i := 6) (v := ?v15) rfl (by kernel_rfl) (by kernel_rfl) (by kernel_rfl) rfl (fun _ _ _ h => h) (Or.inl ⟨by rfl, ?h15⟩) hSK (fun hSK => ?_)
            case h15 => intro w hSw; obtain ⟨hd0, hd1, hd2⟩ := hSw; first | (go_simp; done) | (go_simp; with_reducible rfl)
            try simp only [Act.put, List.setIfInBounds_toArray, List.set_cons_zero, List.set_cons_succ]
            refine readyL2 (i := 7) (j := 11) (by kernel_rfl) rfl rfl (fun K hK => ?a16) (fun K hK => ?b16)
            case' a16 =>
              rw [if_pos (by rfl)]
              go_simp
              refine (hstep _ ((Chg.refl _ wr).drew)).mono ?_
              rintro e w5 ⟨v', L', D', turn', idx', tab', m', rfl, hL', hfu', hlen', hm', hf', hd', _, hfp', kst, htu', _⟩
              obtain ⟨B1, d1, B2, d2, rfl⟩ := hm'.form
              dsimp only
              have ks : Chg (fun k => k = s ∨ L.fp k) wr w5 := ((Chg.refl _ wr).drew).trans kst
              refine hK.out _ _ (SK.both ⟨cell_chg (S := fun k => k = s ∨ L.fp k) ks y0 hqT, cell_chg (S := fun k => k = s ∨ L.fp k) ks y1 hqT, cell_chg (S := fun k => k = s ∨ L.fp k) ks c0 hbT⟩ trivial _) (fun hSK => ?_)
              clear hK K
              try simp only [Act.put, List.setIfInBounds_toArray, List.set_cons_zero, List.set_cons_succ]
              refine takeK0 (i := 8) (v := ?v1) rfl (by kernel_rfl) (by kernel_rfl) (by kernel_rfl) rfl (fun _ _ _ h => h) (Or.inl ⟨by rfl, ?h1⟩) hSK (fun hSK => ?_)
              case h1 => intro w hSw; obtain ⟨hd0, hd1⟩ := hSw; first | (go_simp; done) | (go_simp; with_reducible rfl)
              try simp only [Act.put, List.setIfInBounds_toArray, List.set_cons_zero, List.set_cons_succ]
              refine takeK0 (i := 9) (v := ?v2) rfl (by kernel_rfl) (by kernel_rfl) (by kernel_rfl) rfl (fun _ _ _ h => h) (Or.inl ⟨by rfl, ?h2⟩) hSK (fun hSK => ?_)
              case h2 => intro w hSw; obtain ⟨hd0, hd1⟩ := hSw; first | (go_simp; done) | (go_simp; with_reducible rfl)
              try simp only [Act.put, List.setIfInBounds_toArray, List.set_cons_zero, List.set_cons_succ]
              refine takeK0 (i := 10) (v := ?v3) rfl (by kernel_rfl) (by kernel_rfl) (by kernel_rfl) rfl (fun _ _ _ h => h) (Or.inl ⟨by rfl, ?h3⟩) hSK (fun hSK => ?_)
              case h3 => intro w hSw; obtain ⟨hd0, hd1⟩ := hSw; first | (go_simp; done) | (go_simp; with_reducible rfl)
              try simp only [Act.put, List.setIfInBounds_toArray, List.set_cons_zero, List.set_cons_succ]
              refine readyL (i := 11) (by kernel_rfl) rfl (fun K hK => ?_)
              rw [if_pos (by rfl)]
              go_simp
              refine hK.out _ _ (SK.both ⟨cell_chg (S := fun k => k = s ∨ L.fp k) (ks.alloc _) y0 hqT, cell_chg (S := fun k => k = s ∨ L.fp k) (ks.alloc _) y1 hqT, cell_chg (S := fun k => k = s ∨ L.fp k) (ks.alloc _) c0 hbT⟩ trivial _) (fun hSK => ?_)
              clear hK K
              try simp only [Act.put, List.setIfInBounds_toArray, List.set_cons_zero, List.set_cons_succ]
              refine readyL (i := 12) (by kernel_rfl) rfl (fun K hK => ?_)
              rw [if_pos (by rfl)]
              go_simp
              refine hK.out _ _ (SK.both ⟨cell_chg (S := fun k => k = s ∨ L.fp k) (ks.alloc _) y0 hqT, cell_chg (S := fun k => k = s ∨ L.fp k) (ks.alloc _) y1 hqT, cell_chg (S := fun k => k = s ∨ L.fp k) (ks.alloc _) c0 hbT⟩ trivial _) (fun hSK => ?_)
              clear hK K
              try simp only [Act.put, List.setIfInBounds_toArray, List.set_cons_zero, List.set_cons_succ]
              refine takeK0 (i := 13) (v := ?v4) rfl (by kernel_rfl) (by kernel_rfl) (by kernel_rfl) rfl (fun _ _ _ h => h) (Or.inl ⟨by rfl, ?h4⟩) hSK (fun hSK => ?_)
              case h4 => intro w hSw; obtain ⟨hd0, hd1⟩ := hSw; first | (go_simp; done) | (go_simp; with_reducible rfl)
              try simp only [Act.put, List.setIfInBounds_toArray, List.set_cons_zero, List.set_cons_succ]
              refine doneL (by kernel_rfl) ?_ _
              refine NoPanic.normal ?_
              have hA := after_alloc hR hL' hm' hf' ks
              obtain ⟨x, hx⟩ : ∃ x, x = w5.heap.size := ⟨_, rfl⟩
              rw [← hx] at hA ⊢
              generalize w5.alloc (.cells #[.slice B1 m'.length d1, .slice B2 m'.length d2] 32) = W at *
              clear hx
            case' b16 =>
              rw [if_pos (by rfl)]
              go_simp
              refine hK.out _ _ (SK.both ⟨cell_chg (S := fun k => k = s ∨ L.fp k) ((Chg.refl _ wr).drew.alloc _) y0 hqT, cell_chg (S := fun k => k = s ∨ L.fp k) ((Chg.refl _ wr).drew.alloc _) y1 hqT, cell_chg (S := fun k => k = s ∨ L.fp k) ((Chg.refl _ wr).drew.alloc _) c0 hbT⟩ trivial _) (fun hSK => ?_)
              clear hK K
              try simp only [Act.put, List.setIfInBounds_toArray, List.set_cons_zero, List.set_cons_succ]
              refine readyL (i := 7) (by kernel_rfl) rfl (fun K hK => ?_)
              rw [if_pos (by rfl)]
              go_simp
              refine (hstep _ ((Chg.refl _ wr).drew.alloc _)).mono ?_
              rintro e w5 ⟨v', L', D', turn', idx', tab', m', rfl, hL', hfu', hlen', hm', hf', hd', _, hfp', kst, htu', _⟩
              obtain ⟨B1, d1, B2, d2, rfl⟩ := hm'.form
              dsimp only
              have ks : Chg (fun k => k = s ∨ L.fp k) wr w5 := ((Chg.refl _ wr).drew.alloc _).trans kst
              have hz2 : Blk w5 wr.heap.size 32 [.slice none 0 0, .slice none 0 0] := (Blk.new wr.drew 32 [.slice none 0 0, .slice none 0 0]).chg kst (hN _ (Nat.le_refl _))
              obtain ⟨z0, z1, z2, z3, z4, z5⟩ := hz2.st2
              refine hK.out _ _ (SK.both ⟨cell_chg (S := fun k => k = s ∨ L.fp k) ks y0 hqT, cell_chg (S := fun k => k = s ∨ L.fp k) ks y1 hqT, cell_chg (S := fun k => k = s ∨ L.fp k) ks c0 hbT⟩ trivial _) (fun hSK => ?_)
              clear hK K
              try simp only [Act.put, List.setIfInBounds_toArray, List.set_cons_zero, List.set_cons_succ]
              refine takeK0 (i := 8) (v := ?v5) rfl (by kernel_rfl) (by kernel_rfl) (by kernel_rfl) rfl (fun _ _ _ h => h) (Or.inl ⟨by rfl, ?h5⟩) hSK (fun hSK => ?_)
              case h5 => intro w hSw; obtain ⟨hd0, hd1⟩ := hSw; first | (go_simp; done) | (go_simp; with_reducible rfl)
              try simp only [Act.put, List.setIfInBounds_toArray, List.set_cons_zero, List.set_cons_succ]
              refine takeK0 (i := 9) (v := ?v6) rfl (by kernel_rfl) (by kernel_rfl) (by kernel_rfl) rfl (fun _ _ _ h => h) (Or.inl ⟨by rfl, ?h6⟩) hSK (fun hSK => ?_)
              case h6 => intro w hSw; obtain ⟨hd0, hd1⟩ := hSw; first | (go_simp; done) | (go_simp; with_reducible rfl)
              try simp only [Act.put, List.setIfInBounds_toArray, List.set_cons_zero, List.set_cons_succ]
              refine takeK0 (i := 10) (v := ?v7) rfl (by kernel_rfl) (by kernel_rfl) (by kernel_rfl) rfl (fun _ _ _ h => h) (Or.inl ⟨by rfl, ?h7⟩) hSK (fun hSK => ?_)
              case h7 => intro w hSw; obtain ⟨hd0, hd1⟩ := hSw; first | (go_simp; done) | (go_simp; with_reducible rfl)
              try simp only [Act.put, List.setIfInBounds_toArray, List.set_cons_zero, List.set_cons_succ]
              refine readyL (i := 12) (by kernel_rfl) rfl (fun K hK => ?_)
              rw [if_pos (by rfl)]
              go_simp
              refine hK.out _ _ (SK.both ⟨cell_chg (Chg.put2 w5 wr.heap.size _ _) (cell_chg (S := fun k => k = s ∨ L.fp k) ks y0 hqT) (show q ≠ wr.heap.size from by omega), cell_chg (Chg.put2 w5 wr.heap.size _ _) (cell_chg (S := fun k => k = s ∨ L.fp k) ks y1 hqT) (show q ≠ wr.heap.size from by omega), cell_chg (Chg.put2 w5 wr.heap.size _ _) (cell_chg (S := fun k => k = s ∨ L.fp k) ks c0 hbT) (show b ≠ wr.heap.size from by omega)⟩ trivial _) (fun hSK => ?_)
              clear hK K
              try simp only [Act.put, List.setIfInBounds_toArray, List.set_cons_zero, List.set_cons_succ]
              refine takeK0 (i := 13) (v := ?v8) rfl (by kernel_rfl) (by kernel_rfl) (by kernel_rfl) rfl (fun _ _ _ h => h) (Or.inl ⟨by rfl, ?h8⟩) hSK (fun hSK => ?_)
              case h8 => intro w hSw; obtain ⟨hd0, hd1⟩ := hSw; first | (go_simp; done) | (go_simp; with_reducible rfl)
              try simp only [Act.put, List.setIfInBounds_toArray, List.set_cons_zero, List.set_cons_succ]
              refine doneL (by kernel_rfl) ?_ _
              refine NoPanic.normal ?_
              have hA := after_put hR hL' hm' hf' ks (Nat.le_refl _) hz2
              obtain ⟨x, hx⟩ : ∃ x, x = wr.heap.size := ⟨_, rfl⟩
              rw [← hx] at hA ⊢
              generalize (w5.setCell ⟨x, 0, none⟩ (.slice B1 m'.length d1)).setCell ⟨x, 1, none⟩ (.slice B2 m'.length d2) = W at *
              clear hx
            all_goals
              obtain ⟨x0, x1, _⟩ := hA.bx.st2
              obtain ⟨t0, t1, t2, t3, t4, t5⟩ := hA.bq.st2
              have hR2 := hR.next hA hq hfu' hlen' hd' hfp' (by first | exact hwz | (simp; omega)) htu'
              clear hA hstep hR hL' hm' hf' kst ks hfp' y0 y1 c0 hSK hN hqT hbT
              go_wp2
              exact ⟨⟨j + 1, L', D', turn', idx', tab', m', _, _, by omega, rfl, Lib.hid hR2⟩, by simp only [intOf]; omega⟩
          · have hml : m.length ≤ 1000000 := by have := hR.live.dg.msmall; omega
            have hk := hR.same
            go_wp2_with (first
              | (go_at_call 17; refine (is_spec hR.live hR.map hml).mono ?_; rintro e w8 ⟨rfl, k8⟩; rw [decide_eq_true rfl])
              | (go_at_call 12; refine (awake_spec _).mono ?_; rintro e w9 ⟨rfl, k9⟩))
            go_ret
            exact ⟨rfl, (hk.trans k8).trans k9⟩
end Go.Proofs.Obj

/-
  How the laws' arguments are opened: slices of slices of puts.
-/
namespace Go.Proofs.Obj
open Go Go.RowKit Go.ChangeShapes Go.WideShapes Go.Deep

theorem cells43 : Tryz.prog.cellsOf 43 = 3 := by kernel_rfl
theorem cells9 : Tryz.prog.cellsOf 9 = 1 := by kernel_rfl
theorem cells4 : Tryz.prog.cellsOf 4 = 1 := by kernel_rfl
theorem cells36 : Tryz.prog.cellsOf 36 = 1 := by kernel_rfl
theorem bytes43 : Tryz.prog.bytesOf 43 = 40 := by kernel_rfl
theorem bytes36 : Tryz.prog.bytesOf 36 = 24 := by kernel_rfl
theorem S_toList (s : ByteArray) : S s.data.toList = s := rfl
section
variable {H : Type} {enc : TypeId × Value → H} {W : World}

theorem reach_le : reachBytes ≤ 140737488355328 := by decide

theorem mem_weightsAll {e : TypeId} {d : DataW H} {n : Nat} (hn : n ∈ d.weights Tryz.prog e) : ∀ (l : List (DataW H)), d ∈ l → n ∈ DataW.weightsAll Tryz.prog e l
  | [], h => by simp at h
  | x :: l, h => by
    simp only [DataW.weightsAll, List.mem_append]
    rcases List.mem_cons.1 h with rfl | h
    · exact .inl hn
    · exact .inr (mem_weightsAll hn l h)

set_option maxRecDepth 100000 in
/-- A put, opened. -/
theorem open_put {fuel : Nat} {cs : List Value} {x : DataW H × List MemPlace} (h : DataW.trod enc Tryz.prog W 0 (fun _ => true) true fuel 43 cs = some x) (hw : ∀ n ∈ x.1.weights Tryz.prog 43, n ≤ reachBytes) :
    ∃ p : PutM, cs = putCells1 p ∧ p.key.length ≤ 140737488355328 ∧ p.blob.length ≤ 140737488355328 := by
  have hr := reach_le
  obtain ⟨y0, y1, y2, n, rfl, hl, h0, h1, h2⟩ := trod_struct3 Tryz.underlying43 h
  rw [cells43] at hl
  match cs, hl with
  | [c0, c1, c2], _ =>
    simp only [cells9, cells4, List.drop_zero, List.drop_succ_cons, List.take_succ_cons, List.take_zero] at h0 h1 h2
    obtain ⟨s0, e0, rfl, _⟩ := DataW.trod_string Tryz.underlying9 h0
    obtain ⟨s1, e1, rfl, _⟩ := DataW.trod_string Tryz.underlying9 h1
    obtain ⟨g, e2, rfl⟩ := DataW.trod_bool Tryz.underlying4 h2
    simp only [List.cons.injEq, and_true] at e0 e1 e2
    subst e0 e1 e2
    have hw0 := hw s0.data.toList.length (by simp [DataW.weights, Tryz.underlying43, DataW.weightsEach])
    have hw1 := hw s1.data.toList.length (by simp [DataW.weights, Tryz.underlying43, DataW.weightsEach])
    exact ⟨⟨s0.data.toList, s1.data.toList, g⟩, by simp [putCells1, S_toList], by dsimp only; omega, by dsimp only; omega⟩

theorem putsCells_get : ∀ (l : List PutM) (i k : Nat), k < 3 → (putsCells l)[i * 3 + k]? = (l[i]?).bind fun p => (putCells1 p)[k]?
  | [], i, k, _ => by simp [putsCells]
  | p :: l, 0, k, hk => by
    have e1 : putsCells (p :: l) = putCells1 p ++ putsCells l := by simp [putsCells]
    rw [e1, Nat.zero_mul, Nat.zero_add, List.getElem?_append_left (by simpa [putCells1] using hk)]
    rfl
  | p :: l, i + 1, k, hk => by
    have e1 : putsCells (p :: l) = putCells1 p ++ putsCells l := by simp [putsCells]
    have e2 : (putCells1 p).length = 3 := rfl
    rw [e1, List.getElem?_append_right (by rw [e2]; omega), e2, show (i + 1) * 3 + k - 3 = i * 3 + k by omega, putsCells_get l i k hk]
    rfl

set_option maxRecDepth 100000 in
/-- A slice of puts, opened. -/
theorem open_puts {fuel : Nat} {cs : List Value} {d : DataW H} {pl : List MemPlace} (h : DataW.trod enc Tryz.prog W 0 (fun _ => true) true fuel 36 cs = some (d, pl)) (hw : ∀ n ∈ d.weights Tryz.prog 36, n ≤ reachBytes) :
    ∃ v l, cs = [v] ∧ PutsAt W v l ∧ (l = [] ∨ RowFrom (fun b => b < W.heap.size) v) ∧ l.length ≤ 140737488355328 ∧ ∀ p ∈ l, p.key.length ≤ 140737488355328 ∧ p.blob.length ≤ 140737488355328 := by
  have hr := reach_le
  rcases open_slice Tryz.underlying36 h with ⟨hcs, hx⟩ | ⟨a, len, cap, m, n, D, Pl, hcs, _, hl, hm, hmm, hx, hV⟩
  · exact ⟨_, [], hcs, ⟨none, 0, rfl, .inl rfl⟩, .inl rfl, by simp, by simp⟩
  · simp only [if_true] at hmm
    subst hmm
    obtain ⟨rfl, rfl⟩ := Prod.mk.inj hx
    rw [cells43] at hV
    have hww := hw ((((List.range len).map D).length + ((List.range (m - len)).map fun j => D (len + j)).length) * 40) (by
      simp only [DataW.weights, Tryz.underlying36, bytes43]
      simp)
    have hin : ∀ i, i < len → ∀ n ∈ (D i).weights Tryz.prog 43, n ≤ reachBytes := fun i hi n hn => hw n (by
      simp only [DataW.weights, Tryz.underlying36]
      exact List.mem_cons_of_mem _ (List.mem_append_left _ (mem_weightsAll hn _ (List.mem_map.2 ⟨i, by simpa using hi, rfl⟩))))
    haveI : Inhabited PutM := ⟨⟨[], [], false⟩⟩
    obtain ⟨f, hff⟩ := choose_lt (α := PutM) (n := len) (p := fun i p => (∀ k, k < 3 → W.cell? ((a.add (i * 3)).add k) = (putCells1 p)[k]?) ∧ p.key.length ≤ 140737488355328 ∧ p.blob.length ≤ 140737488355328) (fun i hi => by
      obtain ⟨cs', h1, h2⟩ := hV i (by omega)
      obtain ⟨p, rfl, h3, h4⟩ := open_put h2 (hin i hi)
      exact ⟨p, (World.cells?_some h1).2.2, h3, h4⟩)
    have hlen : ((List.range len).map f).length = len := by simp
    have hspot : 0 < len → ∃ b off, a = ⟨b, off, none⟩ ∧ b < W.heap.size := fun h0 => by
      have hc := (hff 0 h0).1 0 (by decide)
      simp only [putCells1, List.getElem?_cons_zero] at hc
      obtain ⟨b, off, spot⟩ := a
      have hspot : spot = none := by have := World.cell?_spot hc; simpa [Addr.add] using this
      subst hspot
      have hb := World.block_lt_of_cell? W _ hc
      exact ⟨b, off, rfl, by simpa [Addr.add] using hb⟩
    refine ⟨_, (List.range len).map f, hcs, ⟨some a, m, by rw [hlen], ?_⟩, ?_, by rw [hlen]; simp at hww; omega, ?_⟩
    · by_cases h0 : len = 0
      · left; subst h0; rfl
      · right
        obtain ⟨b, off, rfl, _⟩ := hspot (by omega)
        refine ⟨b, off, rfl, fun j u hu => ?_⟩
        have hj : j = j / 3 * 3 + j % 3 := by omega
        rw [hj, putsCells_get _ _ _ (Nat.mod_lt _ (by decide))] at hu
        obtain ⟨p, hp, hpu⟩ := Option.bind_eq_some_iff.1 hu
        obtain ⟨hi, rfl⟩ := List.getElem?_eq_some_iff.1 hp
        rw [hlen] at hi
        have hc := (hff _ hi).1 (j % 3) (Nat.mod_lt _ (by decide))
        rw [add_add, ← hj, Go.WideShapes.add_plain] at hc
        rw [hc]
        simpa using hpu
    · by_cases h0 : len = 0
      · left; subst h0; rfl
      · right
        obtain ⟨b, off, rfl, hb⟩ := hspot (by omega)
        exact ⟨_, _, _, rfl, fun x hx => by cases hx; exact hb⟩
    · intro p hp
      obtain ⟨i, hi, rfl⟩ := List.mem_map.1 hp
      exact (hff i (by simpa using hi)).2

/-- A slice of slices of puts, opened. -/
theorem open_putRows {a0 : Option Addr} {len0 cap0 : Nat} {d : DataW H} {pl : List MemPlace} (h : DataW.Trod enc Tryz.prog W 0 (fun _ => true) true 41 (.slice a0 len0 cap0) d pl) (hw : ∀ n ∈ d.weights Tryz.prog 41, n ≤ reachBytes) :
    ∃ ls, PutRows W (.slice a0 len0 cap0) ls ∧ ls.length ≤ 140737488355328 := by
  obtain ⟨fuel, hf⟩ := h
  have hr := reach_le
  rcases open_slice1 Tryz.underlying41 cells36 hf with ⟨hcs, hx⟩ | ⟨a, len, cap, m, n, V, D, Pl, hcs, _, hl, hm, hmm, hx, hV⟩
  · simp [Value.cells] at hcs
    obtain ⟨rfl, rfl, rfl⟩ := hcs
    exact ⟨[], ⟨none, 0, rfl, fun i hi => by simp at hi⟩, by simp⟩
  · simp [Value.cells] at hcs
    obtain ⟨rfl, rfl, rfl⟩ := hcs
    simp only [if_true] at hmm
    subst hmm
    obtain ⟨rfl, rfl⟩ := Prod.mk.inj hx
    have hww := hw ((((List.range len0).map D).length + ((List.range (m - len0)).map fun j => D (len0 + j)).length) * 24) (by
      simp only [DataW.weights, Tryz.underlying41, bytes36]
      simp)
    have hin : ∀ i, i < len0 → ∀ n ∈ (D i).weights Tryz.prog 36, n ≤ reachBytes := fun i hi n hn => hw n (by
      simp only [DataW.weights, Tryz.underlying41]
      exact List.mem_cons_of_mem _ (List.mem_append_left _ (mem_weightsAll hn _ (List.mem_map.2 ⟨i, by simpa using hi, rfl⟩))))
    obtain ⟨f, hff⟩ := choose_lt (α := List PutM) (n := len0) (p := fun i l => PutsAt W (V i) l ∧ (l = [] ∨ RowFrom (fun b => b < W.heap.size) (V i)) ∧ l.length ≤ 140737488355328 ∧ ∀ p ∈ l, p.key.length ≤ 140737488355328 ∧ p.blob.length ≤ 140737488355328) (fun i hi => by
      obtain ⟨v, l, hv, hb⟩ := open_puts (hV i (by omega)).2 (hin i hi)
      cases hv
      exact ⟨l, hb⟩)
    refine ⟨(List.range len0).map f, ⟨some a, m, by simp, fun i hi => ?_⟩, by simp at hww ⊢; omega⟩
    simp at hi
    have hc := (hV i (by omega)).1
    obtain ⟨b, off, spot⟩ := a
    have hspot : spot = none := by have := World.cell?_spot (hV 0 (by omega)).1; simpa [Addr.add] using this
    subst hspot
    rw [Go.WideShapes.add_plain] at hc
    exact ⟨b, off, V i, rfl, hc, by simpa using hff i hi⟩
end
end Go.Proofs.Obj

namespace Go.Proofs.YtiiinmleiigckaaGreatDoor
open Go.ChangeShapes Go.WideShapes Go.ChangeAt Go.RowKit Go.Proofs.Obj

set_option maxRecDepth 100000 in
/-- WHAT THE WALK GIVES, FOR EVERY ARGUMENT. -/
theorem objectsRaw_contract (H : Type) (enc : TypeId × Value → H) (W : World) (base : Nat) (args : Array Value) (ds gs : List (DataW H)) (before : List MemPlace)
    (hval : ∀ (j : Nat) t v, Tryz.f4.params[j]? = some t → args[j]? = some v → Value.okWide Tryz.prog W .any base t v)
    (hW : DataW.Whole enc Tryz.prog Tryz.f4.params.toList Rows.objectsRawSpec.vars false W args.toList ds gs before)
    (hz : (DataW.weightsEach Tryz.prog (Tryz.f4.params.toList ++ (OpenSpec.ofChange Rows.objectsRawSpec).bare.plain.varTypes Tryz.prog) (ds ++ gs)).all (· ≤ reachBytes) = true) :
    Calls Tryz.prog 4 args W fun e W' => ∃ v, e = .returned v ∧ Rows.objectsRawSpec.post enc Tryz.prog Tryz.f4 false true false false W args v W' := by
  have hW' := hW
  obtain ⟨p, q, hA0, hV, rfl, hfz, hnd⟩ := hW
  have hA : DataW.TrodAll enc Tryz.prog W 0 (fun _ => true) true Tryz.f4.params.toList args.toList ds p := hA0
  rw [Tryz.params4] at hA hval
  obtain ⟨v0, vs0, d0, ds0, p0, q0, hargs, rfl, rfl, h0, r0⟩ := trodAll_cons hA
  obtain ⟨v1, vs1, d1, ds1, p1, q1, rfl, rfl, rfl, h1, r1⟩ := trodAll_cons r0
  obtain ⟨rfl, rfl, rfl⟩ := trodAll_nil r1
  obtain rfl : args = #[v0, v1] := by cases args; simp_all
  obtain ⟨rfl, rfl⟩ := trodVars_none hV
  obtain ⟨a0, rfl, rfl, rfl, w0⟩ := open_int Tryz.underlying5 (hval 0 5 v0 rfl rfl) h0
  obtain ⟨b1, len1, cap1, rfl⟩ := okWide_slice Tryz.underlying41 (hval 1 41 v1 rfl rfl)
  clear hA0
  obtain ⟨n0, rfl, hn0⟩ := open_u8 w0
  obtain ⟨ls1, hls1, hll1⟩ := open_putRows h1 (fun n hn => by
    have := List.all_eq_true.1 hz n (DataW.weights_mem_each (j := 1) (t := 41) (d := d1) rfl rfl n hn)
    simpa using this)
  simp only [List.append_nil] at hW'
  refine (raw_walk hn0 hls1 hll1).mono fun e W' ⟨he, hg⟩ => ?_
  subst he
  have hB := Chg.same_below hg
  exact ⟨_, rfl, _, _, _, [], _, [], hW', trodAll_mk1 (shut_bool Tryz.underlying4 _), (trodAll_cons_mk (shut_int Tryz.underlying5 w0) (trodAll_cons_mk (Below.trod laidOutT (by kernel_rfl) (of_decide_eq_true (by kernel_rfl)) h1 hB (fun x hx => hW'.lt x (by simp [hx]))) trodAll_mk0)), rfl, hB.frame _, fun h => by cases h⟩

abbrev objectsRaw_args : Array Value := #[.int .u8 0, .slice none 0 0]
theorem objectsRaw_laid (os : Os) : laidMet Tryz.prog Rows.objectsRawRow.laid ((laidWorld os).forCall (fun _ _ => 0) ⟨#[], objectsRaw_args, []⟩).memory :=
  laidMet_of_run' 8 (by kernel_rfl) (by kernel_rfl)
theorem objectsRaw_reads (os : Os) {H : Type} (enc : TypeId × Value → H) : ∃ places, DataW.whole enc Tryz.prog ((laidWorld os).forCall (fun _ _ => 0) ⟨#[], objectsRaw_args, []⟩).memory Tryz.f4.params.toList Rows.objectsRawSpec.vars false objectsRaw_args.toList 8 = some ([.lit (.int .u8 0), .nil], [], places) :=
  ⟨[], by kernel_rfl⟩

set_option maxRecDepth 100000 in
theorem objectsRaw_lifted (os : Os) (started : os.Started) (H : Type) (enc : TypeId × Value → H) (F : Stop.Interp) :
    ReturnsInHanded {} Tryz.checked os 4 .any ((OpenSpec.ofChange Rows.objectsRawSpec).preRow enc Tryz.prog Tryz.f4 Rows.objectsRawRow.domain false Rows.objectsRawRow.laid) (((OpenSpec.ofChange Rows.objectsRawSpec).at F).post enc Tryz.prog Tryz.f4 false true false false) := by
  obtain ⟨places, hx⟩ := objectsRaw_reads os enc
  refine returnsInHanded_of_row (C := Tryz.checked) (s := OpenSpec.ofChange Rows.objectsRawSpec) ownT started (by kernel_rfl) Tryz.func4
    (witness_row_at (enc := enc) (C := Tryz.checked) false (laidWorld os) objectsRaw_args rfl (by kernel_rfl) (by kernel_rfl) (by kernel_rfl)
      (OpenSpec.preRow_of_cond 8 hx (by kernel_rfl) (fun k hk => by cases hk) (by kernel_rfl) (objectsRaw_laid os))) ?_
  intro W base args ds gs before hval hW _ hcond hz _ _ _
  exact objectsRaw_contract H enc W base args ds gs before hval hW hz

theorem objectsRaw_said : Rows.ObjectsRawSaid :=
  OpenClaim.holds_of_cond 4 Tryz.f4 rfl rfl rfl rfl rfl rfl rfl ⟨rfl, rfl, rfl, rfl, rfl⟩ rfl rfl rfl rfl rfl (by kernel_rfl) Tryz.func4 (by kernel_rfl)
    (of_decide_eq_true (by kernel_rfl)) (by unfold Func.isWrapper; first | (rw [if_pos (by decide +kernel)]; kernel_rfl) | (rw [if_neg (by decide +kernel)]; exact ⟨rfl, rfl⟩))
    (fun os started H enc _ F => by rw [OpenClaim.pre_eq_preRow]; exact objectsRaw_lifted os started H enc F)

theorem objectsRaw_plain (f : FuncId) (fn : Func) (hf : Tryz.pinned.checked.prog.funcNamed "shelfmark/shelfmarklaw17.ObjectsRaw" = some f) (hfn : Tryz.pinned.checked.prog.funcs[f]? = some fn) :
    true = Tryz.pinned.checked.prog.looks [] ∧ ∀ (j : Nat) t, fn.params[j]? = some t → Tryz.pinned.checked.prog.wantsStandIn t = false := by
  obtain rfl : f = 4 := Option.some.inj ((show Tryz.prog.funcNamed "shelfmark/shelfmarklaw17.ObjectsRaw" = some 4 by kernel_rfl).symm.trans hf) |>.symm
  obtain rfl : fn = Tryz.f4 := (Option.some.inj (Tryz.func4.symm.trans hfn)).symm
  refine ⟨by kernel_rfl, fun j t ht => ?_⟩
  rw [Tryz.params4] at ht
  have ht2 := Array.mem_of_getElem? ht
  simp only [List.mem_toArray, List.mem_cons, List.not_mem_nil, or_false] at ht2
  rcases ht2 with rfl | rfl
  · exact (show Tryz.prog.wantsStandIn 5 = false by kernel_rfl)
  · exact (show Tryz.prog.wantsStandIn 41 = false by kernel_rfl)

/-- THE CARD. -/
theorem objectsRaw_card : Rows.ObjectsRawCardSaid :=
  Claim7.holds_tied_plain_at .later [] _ _ _ _ objectsRaw_said (fun _ h => by cases h) (by kernel_rfl) (fun _ h => by cases h) objectsRaw_row_tie rfl ⟨rfl, rfl⟩ (by kernel_rfl) rfl objectsRaw_plain (by kernel_rfl)
#print axioms objectsRaw_card
end Go.Proofs.YtiiinmleiigckaaGreatDoor
