/- What is proved here: contracts of the statements' helpers; rounds of a law. No condition but what each theorem says. -/
import Derived.Test.YtiiinmleiigckaaGreatDoorGZA
import Derived.Test.YtiiinmleiigckaaGreatDoorGY
set_option linter.unusedVariables false
set_option linter.unusedSimpArgs false

/- L13 -/
namespace Go.Proofs.Obj
open Go Go.RowKit Go.Shelf

theorem mayF_all {l : List PutM} (h : mayF l = true) : ∀ p ∈ l, p.key.length ≤ 300 ∧ p.blob.length ≤ 131072 := mayGo_all l [] h

/-- How a commit ends on a live store. -/
def CommitL (w : World) (L : DL) (s : Nat) (D : Dk) (turn : Nat) (idx : List Nat) (tab : Tab) (m : MpL) (l : List PutM) (L' : DL) (D' : Dk) (c : Int) (w' : World) : Prop :=
  (mayF l = false ∧ c = 1 ∧ D' = D ∧ LiveM w' L' s D turn idx tab m) ∨
  (mayF l = true ∧ c = 6 ∧ D.firm.length < 3 * (needOf m + needOf (mpPuts m l)) + 40 ∧ D' = D ∧ LiveM w' L' s D turn idx tab m) ∨
  (mayF l = true ∧ c = 0 ∧ ∃ idx' tab', LiveM w' L' s D' (turn + 1) idx' tab' (mpPuts m l) ∧ D'.firm.length = D.firm.length ∧ (D.fuse = -1 → D'.fuse = -1)) ∨
  (mayF l = true ∧ c = 7 ∧ StoreAt w' s L.d turn idx tab true ∧ DiskAt w' L' D' ∧ D.fuse ≠ -1 ∧ D'.down = true ∧ D'.loose.length ≤ 65536 ∧ ∀ keep, DGood (D'.crash keep) turn idx tab m ∧ (D'.crash keep).firm.length = D.firm.length ∧ (D'.crash keep).fuse = -1)

theorem commit_live {w : World} {s turn : Nat} {idx : List Nat} {tab : Tab} {L : DL} {D : Dk} {m : MpL} {v : Value} {l : List PutM} (h : LiveM w L s D turn idx tab m) (hv : PutsAt w v l) (hll : l.length ≤ 64) (hsz : ∀ p ∈ l, p.key.length ≤ 4294967296 ∧ p.blob.length ≤ 4294967296) (ht : turn + 1 < 1000000) :
    Calls Tryz.prog 21 #[.pointer (some ⟨s, 0, none⟩), v] w fun e w' => ∃ (L' : DL) (D' : Dk) (c : Int), e = .returned (.int .i64 c) ∧ L'.d = L.d ∧ L'.fb = L.fb ∧ (∀ k, L'.fp k → L.fp k ∨ w.heap.size ≤ k) ∧ Chg (fun k => k = s ∨ L.fp k) w w' ∧ CommitL w L s D turn idx tab m l L' D' c w' := by
  refine (commit_spec h.live hv hll hsz ht).mono ?_
  rintro e w' ⟨L', D', c, rfl, hD, h1, h2, h3, h4, he⟩
  refine ⟨L', D', c, rfl, h1, h2, h3, h4, ?_⟩
  rcases commit_ends h.dg ht he hD.fuse0 with ⟨a1, a2, a3, a4⟩ | ⟨a1, a2, a3, a4, a5⟩ | ⟨a1, a2, idx', tab', a3, a4, a5, a6⟩ | ⟨a1, a2, a3, a4, a5, a6, a7⟩
  · subst a3
    exact .inl ⟨a1, a2, rfl, hD, h.dg, h1 ▸ a4⟩
  · subst a4
    exact .inr (.inl ⟨a1, a2, a3, rfl, hD, h.dg, h1 ▸ a5⟩)
  · exact .inr (.inr (.inl ⟨a1, a2, idx', tab', ⟨hD, a4, h1 ▸ a3⟩, a5, a6⟩))
  · exact .inr (.inr (.inr ⟨a1, a2, a3, hD, a4, a5, a6, a7⟩))

/-- Blocks that a store does not write. -/
abbrev Away (w : World) (L : DL) (s : Nat) : Nat → Prop := fun b => b < w.heap.size ∧ b ≠ s ∧ ¬ L.fp b
theorem Away.next {w w' : World} {L L' : DL} {s : Nat} (hk : w.heap.size ≤ w'.heap.size) (hf : ∀ k, L'.fp k → L.fp k ∨ w.heap.size ≤ k) : ∀ b, Away w L s b → Away w' L' s b :=
  fun b hb => ⟨Nat.lt_of_lt_of_le hb.1 hk, hb.2.1, fun h => (hf b h).elim hb.2.2 (fun h => absurd hb.1 (Nat.not_lt.2 h))⟩
theorem LiveM.s_lt {w : World} {L : DL} {s : Nat} {D : Dk} {turn : Nat} {idx : List Nat} {tab : Tab} {m : MpL} (h : LiveM w L s D turn idx tab m) : s < w.heap.size := by
  obtain ⟨_, _, _, hsb, _⟩ := h.store
  exact Blk.lt hsb
theorem DiskAt.fp_lt {w : World} {L : DL} {D : Dk} (h : DiskAt w L D) {k : Nat} (hk : L.fp k) : k < w.heap.size := by
  rcases hk with rfl | rfl | hk
  · exact h.blk.lt
  · exact h.fblk.lt
  · obtain ⟨_, hc⟩ := own_type h.row hk
    exact lt_of_at hc

theorem LiveM.chg1 {w w' : World} {L : DL} {s : Nat} {D : Dk} {turn : Nat} {idx : List Nat} {tab : Tab} {m : MpL} (h : LiveM w L s D turn idx tab m) {q : Nat} {c : List Value} (hb : Blk w q 32 c) (k : Chg (fun k => k = q) w w') : LiveM w' L s D turn idx tab m := by
  refine ⟨h.disk.chg k (fun b hf e => h.disk.ne_of hb (by decide) (by decide) (by decide) (e ▸ hf)), h.dg, h.store.chg k ?_ (fun b l hm e => hm.ne hb e) (fun b c' hb' e => hb'.type_ne hb (by decide) e)⟩
  obtain ⟨_, _, _, hsb, _⟩ := h.store
  exact fun e => Blk.type_ne hsb hb (by decide) e

theorem PutsAt.same {w w' : World} {v : Value} {l : List PutM} (h : PutsAt w v l) (k : Same w w') : PutsAt w' v l := by
  obtain ⟨A, cap, rfl, hr⟩ := h
  exact ⟨A, cap, rfl, hr.same k⟩

def StepPost (w : World) (L : DL) (s : Nat) (D : Dk) (turn : Nat) (m : MpL) (l : List PutM) (e : Ending) (w' : World) : Prop :=
  ∃ (v' : Value) (L' : DL) (D' : Dk) (turn' : Nat) (idx' : List Nat) (tab' : Tab) (m' : MpL), e = .returned (.tuple #[v', .bool true]) ∧ LiveM w' L' s D' turn' idx' tab' m' ∧ D'.fuse = -1 ∧ D'.firm.length = D.firm.length ∧
    MapV w' v' m' ∧ AggFrom (Away w' L' s) v' ∧ L'.d = L.d ∧ L'.fb = L.fb ∧ (∀ k, L'.fp k → L.fp k ∨ w.heap.size ≤ k) ∧ Chg (fun k => k = s ∨ L.fp k) w w' ∧ turn' ≤ turn + 1 ∧
    ((m' = m ∧ (mayF l = true → D.firm.length < 3 * (needOf m + needOf (mpPuts m l)) + 40)) ∨ (mayF l = true ∧ m' = mpPuts m l))

theorem AggFrom.form {P : Nat → Prop} {v : Value} (h : AggFrom P v) : ∃ A1 n1 c1 A2 n2 c2, v = .agg #[.slice A1 n1 c1, .slice A2 n2 c2] := by
  obtain ⟨A1, n1, c1, A2, n2, c2, hv, _⟩ := h
  exact ⟨A1, n1, c1, A2, n2, c2, hv⟩

set_option maxRecDepth 100000 in
set_option maxHeartbeats 4000000 in
theorem step_spec {w : World} {s turn : Nat} {idx : List Nat} {tab : Tab} {L : DL} {D : Dk} {m : MpL} {v vl : Value} {l : List PutM} (h : LiveM w L s D turn idx tab m) (hfu : D.fuse = -1) (hm : MapV w v m) (hf : AggFrom (Away w L s) v)
    (hp : PutsAt w vl l) (hpf : l = [] ∨ RowFrom (Away w L s) vl) (hll : l.length ≤ 64) (hsz : ∀ p ∈ l, p.key.length ≤ 4294967296 ∧ p.blob.length ≤ 4294967296) (ht : turn + 1 < 1000000) :
    Calls Tryz.prog 15 #[.pointer (some ⟨L.d, 0, none⟩), .pointer (some ⟨s, 0, none⟩), v, vl] w (StepPost w L s D turn m l) := by
  obtain ⟨A1, c1, A2, c2, rfl⟩ := hm.form
  obtain ⟨hml, hms⟩ := h.dg.msmall
  have hri := h.dg.rising
  have hgen : ∃ w0 : World, (w.alloc (.cells #[.slice A1 m.length c1, .slice A2 m.length c2] 32)).alloc (.cells #[.slice none 0 0, .slice none 0 0] 32) = w0 ∧ Blk w0 w.heap.size 32 [.slice A1 m.length c1, .slice A2 m.length c2] ∧ Blk w0 (w.heap.size + 1) 32 [.slice none 0 0, .slice none 0 0] ∧ Same w w0 := by
    have h3 := Blk.new (w.alloc (.cells #[.slice A1 m.length c1, .slice A2 m.length c2] 32)) 32 [.slice none 0 0, .slice none 0 0]
    simp only [World.size_alloc] at h3
    exact ⟨_, rfl, (Blk.new w 32 [.slice A1 m.length c1, .slice A2 m.length c2]).alloc _, h3, ((Chg.refl _ w).alloc _).alloc _⟩
  obtain ⟨w0, hw0, hb6, hb8, k0⟩ := hgen
  have hc := commit_live (h.same k0) (v := vl) (l := l) (by obtain ⟨A, cap, rfl, hr⟩ := hp; exact ⟨A, cap, rfl, hr.same k0⟩) hll hsz ht
  go_enter Tryz.func15, Tryz.ntmps15
  go_wp2_with fail
  clear hw0
  refine hc.mono ?_
  rintro e w1 ⟨L', D', c, rfl, hd1, hfb1, hfp1, k1, hE⟩
  have hs0 := h.s_lt
  have hw01 := k0.size
  have hfl : ∀ k, L.fp k → k < w.heap.size := fun k hk => h.disk.fp_lt hk
  have hfp : ∀ k, L'.fp k → L.fp k ∨ w.heap.size ≤ k := fun k hk => (hfp1 k hk).imp id (fun h => Nat.le_trans hw01 h)
  have hm1 : MapV w1 (.agg #[.slice A1 m.length c1, .slice A2 m.length c2]) m := (hm.same k0).chg hf k1 (fun b hb e => e.elim hb.2.1 hb.2.2)
  have hp1 : PutsAt w1 vl l := by
    rcases hpf with rfl | hpf
    · obtain ⟨A, cap, hv, _⟩ := hp
      exact ⟨A, cap, hv, .inl rfl⟩
    · exact PutsAt.chg (by obtain ⟨A, cap, rfl, hr⟩ := hp; exact ⟨A, cap, rfl, hr.same k0⟩) hpf k1 (fun b hb e => e.elim hb.2.1 hb.2.2)
  have hb6 := hb6.chg k1 (fun e => e.elim (fun e => by omega) (fun e => absurd (hfl _ e) (by omega)))
  have hb8 := hb8.chg k1 (fun e => e.elim (fun e => by omega) (fun e => absurd (hfl _ e) (by omega)))
  have kw : Chg (fun k => k = s ∨ L.fp k) w w1 := Chg.after_same k0 k1
  have hf1 : AggFrom (Away w1 L' s) (.agg #[.slice A1 m.length c1, .slice A2 m.length c2]) := hf.mono (Away.next kw.size hfp)
  have hw1s := k1.size
  have hkb := hb6.lt
  have hkc := hb8.lt
  clear hf hp hm hc k0 k1 hfp1 hw01
  have hfin : ∀ (W : World) (v1 v2 : Value) (D2 : Dk) (turn2 : Nat) (idx2 : List Nat) (tab2 : Tab) (m2 : MpL), Same w1 W → Blk W (w.heap.size + 1) 32 [.slice none 0 0, .slice none 0 0] → MapV W (.agg #[v1, v2]) m2 → AggFrom (Away W L' s) (.agg #[v1, v2]) → LiveM W L' s D2 turn2 idx2 tab2 m2 → D2.fuse = -1 → D2.firm.length = D.firm.length → turn2 ≤ turn + 1 →
      ((m2 = m ∧ (mayF l = true → D.firm.length < 3 * (needOf m + needOf (mpPuts m l)) + 40)) ∨ (mayF l = true ∧ m2 = mpPuts m l)) →
      Blk ((W.setCell ⟨w.heap.size + 1, 0, none⟩ v1).setCell ⟨w.heap.size + 1, 1, none⟩ v2) (w.heap.size + 1) 32 [v1, v2] ∧ StepPost w L s D turn m l (.returned (.tuple #[.agg #[v1, v2], .bool true])) ((W.setCell ⟨w.heap.size + 1, 0, none⟩ v1).setCell ⟨w.heap.size + 1, 1, none⟩ v2) := by
    intro W v1 v2 D2 turn2 idx2 tab2 m2 kW hb hmv hff hL2 e1 e2 e3 e4
    have kp := Chg.put2 W (w.heap.size + 1) v1 v2
    obtain ⟨B1, n1, d1, B2, n2, d2, hv12⟩ := hff.form
    cases hv12
    refine ⟨hb.put2 _ _, _, L', D2, turn2, idx2, tab2, m2, rfl, ?_, e1, e2, hmv.chg1 hb kp, hff.mono (fun b hb => ⟨Nat.lt_of_lt_of_le hb.1 kp.size, hb.2⟩), hd1, hfb1, hfp, ?_, e3, e4⟩
    · exact hL2.chg1 hb kp
    · exact (kw.then_same kW).trans' kp (fun _ _ h => h) (fun j hj e => by omega)
  rcases hE with ⟨a1, rfl, rfl, hL⟩ | ⟨a1, rfl, a3, rfl, hL⟩ | ⟨a1, rfl, idx2, tab2, hL, a5, a6⟩ | ⟨_, _, _, _, a5, _⟩
  · obtain ⟨y0, y1, y2, y3, y4, y5⟩ := hb6.st2
    go_wp2_with (first
      | (go_at_call 14; refine (err_spec _ _).mono ?_; rintro e w2 ⟨rfl, rfl⟩)
      | (go_at_call 35; refine (mayPuts_spec hp1 (by omega) hsz).mono ?_; rintro e w2 ⟨rfl, k2⟩))
    have hb6 := hb6.same k2
    have hb8 := hb8.same k2
    obtain ⟨y0, y1, _⟩ := hb6.st2
    go_region_held3 (fun w' => w'.cell? ⟨w.heap.size, 0, none⟩ = some (.slice A1 m.length c1) ∧ w'.cell? ⟨w.heap.size, 1, none⟩ = some (.slice A2 m.length c2))
      (first | exact ⟨y0, y1⟩ | exact ⟨cell_chg ks y0 (fun h => h), cell_chg ks y1 (fun h => h)⟩ | exact ⟨cell_chg (Chg.put2 _ (w.heap.size + 1) _ _) (cell_chg ks y0 (fun h => h)) (show w.heap.size ≠ w.heap.size + 1 from by omega), cell_chg (Chg.put2 _ (w.heap.size + 1) _ _) (cell_chg ks y1 (fun h => h)) (show w.heap.size ≠ w.heap.size + 1 from by omega)⟩)
      (first
        | (go_at_call 17; refine (is_spec (hL.same (k2.trans (Chg.refl _ w2).drew)) (hm1.same (k2.trans (Chg.refl _ w2).drew)) (by omega)).mono ?_; rintro e w3 ⟨rfl, k3⟩; have ks := (Chg.refl _ w2).drew.trans k3; have hb9 := hb8.same ks; obtain ⟨z0, z1, z2, z3, z4, z5⟩ := hb9.st2))
    have k13 := k2.trans ks
    obtain ⟨f1, f2⟩ := hfin w3 (.slice A1 m.length c1) (.slice A2 m.length c2) D' turn idx tab m k13 hb9 (hm1.same k13) (hf1.mono (fun b hb => ⟨Nat.lt_of_lt_of_le hb.1 k13.size, hb.2⟩)) (hL.same k13) hfu rfl (by omega) (.inl ⟨rfl, fun e => by rw [a1] at e; cases e⟩)
    go_wp2
    refine bodyPost_ret_by (results_row_tmp rfl _ _ (w.heap.size + 1) 32 [_, _] _ rfl f1 Tryz.underlying32 rfl (by kernel_rfl)) rfl ?_
    simpa using f2
  · obtain ⟨y0, y1, y2, y3, y4, y5⟩ := hb6.st2
    have hall := mayF_all a1
    have hsm2 := mpPuts_small l (m := m) (n := 34064) (by omega) hms hall
    have hri2 := mpPuts_rising l hri
    have hmc := fun W (k : Same w1 W) => mapCommit_spec (hm1.same k) (PutsAt.same hp1 k) hri hf1 (by omega) hms hall
    go_wp2_with (first
      | (go_at_call 14; refine (err_spec _ _).mono ?_; rintro e w2 ⟨rfl, rfl⟩)
      | (go_at_call 35; refine (mayPuts_spec hp1 (by omega) hsz).mono ?_; rintro e w2 ⟨rfl, k2⟩; obtain ⟨y0, y1, _⟩ := (hb6.same k2).st2)
      | (go_at_call 19; refine (hmc _ k2).mono ?_; rintro e w3 ⟨v3, rfl, hm3, hf3, k3⟩; obtain ⟨B1, d1, B2, d2, rfl⟩ := hm3.form))
    have k13 := k2.trans k3
    have hbq := Blk.new w3 32 [.slice B1 (mpPuts m l).length d1, .slice B2 (mpPuts m l).length d2]
    have kq : Same w3 (w3.alloc (.cells #[.slice B1 (mpPuts m l).length d1, .slice B2 (mpPuts m l).length d2] 32)) := (Chg.refl _ w3).alloc _
    have hwq := k13.size
    generalize w3.heap.size = q at *
    change Blk (w3.alloc (.cells #[.slice B1 (mpPuts m l).length d1, .slice B2 (mpPuts m l).length d2] 32)) q 32 _ at hbq
    generalize w3.alloc (.cells #[.slice B1 (mpPuts m l).length d1, .slice B2 (mpPuts m l).length d2] 32) = w4 at *
    have k14 := k13.trans kq
    have hb6 := hb6.same k14
    have hb8 := hb8.same k14
    have hm4 := hm3.same kq
    obtain ⟨y0, y1, _⟩ := hb6.st2
    obtain ⟨x0, x1, _⟩ := hbq.st2
    have hne1 : w.heap.size ≠ w.heap.size + 1 := by omega
    have hne2 : q ≠ w.heap.size + 1 := by omega
    have hqlt := hbq.lt
    have hfp1 : ∀ b, L'.fp b → b < w1.heap.size := fun b hb => hL.disk.fp_lt hb
    have hw12 := k2.size
    have hff : ∀ W : World, w4.heap.size ≤ W.heap.size → AggFrom (Away W L' s) (.agg #[.slice B1 (mpPuts m l).length d1, .slice B2 (mpPuts m l).length d2]) := fun W hW => hf3.mono (fun b hb => hb.elim (fun hb => ⟨by have := hb.1; omega, hb.2⟩) (fun hb => ⟨by omega, by omega, fun h => by have := hfp1 b h; omega⟩))
    have hfull := fun W (k : Same w4 W) => full_spec (hL.disk.same (k14.trans k)) (hm1.same (k14.trans k)) (hm4.same k) (by omega) (by omega) hms hsm2.2
    rw [hd1, decide_eq_true a3] at hfull
    go_region_held3 (fun w' => w'.cell? ⟨w.heap.size, 0, none⟩ = some (.slice A1 m.length c1) ∧ w'.cell? ⟨w.heap.size, 1, none⟩ = some (.slice A2 m.length c2) ∧ w'.cell? ⟨q, 0, none⟩ = some (.slice B1 (mpPuts m l).length d1) ∧ w'.cell? ⟨q, 1, none⟩ = some (.slice B2 (mpPuts m l).length d2))
      (first | exact ⟨y0, y1, x0, x1⟩ | exact ⟨cell_chg ks y0 (fun h => h), cell_chg ks y1 (fun h => h), cell_chg ks x0 (fun h => h), cell_chg ks x1 (fun h => h)⟩ | exact ⟨cell_chg (Chg.put2 _ (w.heap.size + 1) _ _) (cell_chg ks y0 (fun h => h)) (hne1), cell_chg (Chg.put2 _ (w.heap.size + 1) _ _) (cell_chg ks y1 (fun h => h)) (hne1), cell_chg (Chg.put2 _ (w.heap.size + 1) _ _) (cell_chg ks x0 (fun h => h)) (hne2), cell_chg (Chg.put2 _ (w.heap.size + 1) _ _) (cell_chg ks x1 (fun h => h)) (hne2)⟩)
      (first
        | (go_at_call 20; refine (hfull _ (Chg.refl _ w4).drew).mono ?_; rintro e w5 ⟨rfl, k5⟩; have ks := (Chg.refl _ w4).drew.trans k5)
        | (go_at_call 17; refine (is_spec (hL.same (k14.trans ks)) (hm1.same (k14.trans ks)) (by omega)).mono ?_; rintro e w6 ⟨rfl, k6⟩; have ks := ks.trans k6; have hb9 := hb8.same ks; obtain ⟨z0, z1, z2, z3, z4, z5⟩ := hb9.st2))
    have k16 := k14.trans ks
    obtain ⟨f1, f2⟩ := hfin w6 (.slice A1 m.length c1) (.slice A2 m.length c2) D' turn idx tab m k16 hb9 (hm1.same k16) (hf1.mono (fun b hb => ⟨Nat.lt_of_lt_of_le hb.1 k16.size, hb.2⟩)) (hL.same k16) hfu rfl (by omega) (.inl ⟨rfl, fun _ => a3⟩)
    go_wp2
    refine bodyPost_ret_by (results_row_tmp rfl _ _ (w.heap.size + 1) 32 [_, _] _ rfl f1 Tryz.underlying32 rfl (by kernel_rfl)) rfl ?_
    simpa using f2
  · obtain ⟨y0, y1, y2, y3, y4, y5⟩ := hb6.st2
    have hall := mayF_all a1
    have hsm2 := mpPuts_small l (m := m) (n := 34064) (by omega) hms hall
    have hri2 := mpPuts_rising l hri
    have hmc := fun W (k : Same w1 W) => mapCommit_spec (hm1.same k) (PutsAt.same hp1 k) hri hf1 (by omega) hms hall
    go_wp2_with (first
      | (go_at_call 14; refine (err_spec _ _).mono ?_; rintro e w2 ⟨rfl, rfl⟩)
      | (go_at_call 35; refine (mayPuts_spec hp1 (by omega) hsz).mono ?_; rintro e w2 ⟨rfl, k2⟩; obtain ⟨y0, y1, _⟩ := (hb6.same k2).st2)
      | (go_at_call 19; refine (hmc _ k2).mono ?_; rintro e w3 ⟨v3, rfl, hm3, hf3, k3⟩; obtain ⟨B1, d1, B2, d2, rfl⟩ := hm3.form))
    have k13 := k2.trans k3
    have hbq := Blk.new w3 32 [.slice B1 (mpPuts m l).length d1, .slice B2 (mpPuts m l).length d2]
    have kq : Same w3 (w3.alloc (.cells #[.slice B1 (mpPuts m l).length d1, .slice B2 (mpPuts m l).length d2] 32)) := (Chg.refl _ w3).alloc _
    have hwq := k13.size
    generalize w3.heap.size = q at *
    change Blk (w3.alloc (.cells #[.slice B1 (mpPuts m l).length d1, .slice B2 (mpPuts m l).length d2] 32)) q 32 _ at hbq
    generalize w3.alloc (.cells #[.slice B1 (mpPuts m l).length d1, .slice B2 (mpPuts m l).length d2] 32) = w4 at *
    have k14 := k13.trans kq
    have hb6 := hb6.same k14
    have hb8 := hb8.same k14
    have hm4 := hm3.same kq
    obtain ⟨y0, y1, _⟩ := hb6.st2
    obtain ⟨x0, x1, _⟩ := hbq.st2
    have hne1 : w.heap.size ≠ w.heap.size + 1 := by omega
    have hne2 : q ≠ w.heap.size + 1 := by omega
    have hqlt := hbq.lt
    have hfp1 : ∀ b, L'.fp b → b < w1.heap.size := fun b hb => hL.disk.fp_lt hb
    have hw12 := k2.size
    have hff : ∀ W : World, w4.heap.size ≤ W.heap.size → AggFrom (Away W L' s) (.agg #[.slice B1 (mpPuts m l).length d1, .slice B2 (mpPuts m l).length d2]) := fun W hW => hf3.mono (fun b hb => hb.elim (fun hb => ⟨by have := hb.1; omega, hb.2⟩) (fun hb => ⟨by omega, by omega, fun h => by have := hfp1 b h; omega⟩))
    go_region_held3 (fun w' => w'.cell? ⟨q, 0, none⟩ = some (.slice B1 (mpPuts m l).length d1) ∧ w'.cell? ⟨q, 1, none⟩ = some (.slice B2 (mpPuts m l).length d2))
      (first | exact ⟨x0, x1⟩ | exact ⟨cell_chg ks x0 (fun h => h), cell_chg ks x1 (fun h => h)⟩ | exact ⟨cell_chg (Chg.put2 _ (w.heap.size + 1) _ _) (cell_chg ks x0 (fun h => h)) (hne2), cell_chg (Chg.put2 _ (w.heap.size + 1) _ _) (cell_chg ks x1 (fun h => h)) (hne2)⟩)
      (first
        | (go_at_call 17; refine (is_spec (hL.same (k14.trans (Chg.refl _ w4).drew)) (hm4.same (Chg.refl _ w4).drew) (by omega)).mono ?_; rintro e w6 ⟨rfl, k6⟩; have ks := (Chg.refl _ w4).drew.trans k6; have hb9 := hb8.same ks; obtain ⟨z0, z1, z2, z3, z4, z5⟩ := hb9.st2))
    have k16 := k14.trans ks
    obtain ⟨f1, f2⟩ := hfin w6 (.slice B1 (mpPuts m l).length d1) (.slice B2 (mpPuts m l).length d2) D' (turn + 1) idx2 tab2 (mpPuts m l) k16 hb9 (hm4.same ks) (hff _ ks.size) (hL.same k16) (a6 hfu) a5 (by omega) (.inr ⟨a1, rfl⟩)
    go_wp2
    refine bodyPost_ret_by (results_row_tmp rfl _ _ (w.heap.size + 1) 32 [_, _] _ rfl f1 Tryz.underlying32 rfl (by kernel_rfl)) rfl ?_
    simpa using f2
  · exact absurd hfu a5
end Go.Proofs.Obj

/- L14 -/
namespace Go.Proofs.Obj
open Go Go.RowKit Go.Shelf

theorem new_live {w : World} (n : Nat) (h1 : 32 ≤ n) (h2 : n ≤ 4096) :
    Calls Tryz.prog 18 #[.int .i64 n] w fun e w' => ∃ L : DL, e = .returned (.tuple #[.pointer (some ⟨L.d, 0, none⟩), .int .i64 0]) ∧ Same w w' ∧ (∀ k, L.fp k → w.heap.size ≤ k) ∧ DiskAt w' L ⟨List.replicate n zero64, [], false, -1⟩ := by
  refine (new_spec (w := w) (n : Int)).mono ?_
  intro e w' h
  unfold NewPost at h
  rw [if_pos (by omega), Int.toNat_natCast] at h
  exact h

/-- A commit for which there is room, on a disk without a fuse. -/
theorem commit_sure {w : World} {s turn : Nat} {idx : List Nat} {tab : Tab} {L : DL} {D : Dk} {m : MpL} {v : Value} {l : List PutM} (h : LiveM w L s D turn idx tab m) (hv : PutsAt w v l) (hll : l.length ≤ 64) (hm : mayF l = true) (hfu : D.fuse = -1)
    (hr : 3 * (needOf m + needOf (mpPuts m l)) + 40 ≤ D.firm.length) (ht : turn + 1 < 1000000) :
    Calls Tryz.prog 21 #[.pointer (some ⟨s, 0, none⟩), v] w fun e w' => ∃ (L' : DL) (D' : Dk) (idx' : List Nat) (tab' : Tab), e = .returned (.int .i64 0) ∧ L'.d = L.d ∧ L'.fb = L.fb ∧ (∀ k, L'.fp k → L.fp k ∨ w.heap.size ≤ k) ∧ Chg (fun k => k = s ∨ L.fp k) w w' ∧
      LiveM w' L' s D' (turn + 1) idx' tab' (mpPuts m l) ∧ D'.firm.length = D.firm.length ∧ D'.fuse = -1 := by
  refine (commit_live h hv hll (fun p hp => by have := mayF_all hm p hp; omega) ht).mono ?_
  rintro e w' ⟨L', D', c, rfl, h1, h2, h3, h4, hE⟩
  rcases hE with ⟨a1, _⟩ | ⟨_, _, a3, _⟩ | ⟨_, rfl, idx2, tab2, hL, a5, a6⟩ | ⟨_, _, _, _, a5, _⟩
  · rw [hm] at a1; cases a1
  · omega
  · exact ⟨L', D', idx2, tab2, rfl, h1, h2, h3, h4, hL, a5, a6 hfu⟩
  · exact absurd hfu a5

theorem S98 : ((S [98]).toList == [98]) = true := by rw [ByteArray.toList_eq]; rfl
theorem ab_may : mayF [⟨[97], [98], false⟩] = true := rfl
theorem ab_puts : mpPuts [] [⟨[97], [98], false⟩] = [([97], [98])] := rfl
theorem ab_need : 3 * (needOf [] + needOf (mpPuts [] [⟨[97], [98], false⟩])) + 40 ≤ (List.replicate 200 zero64).length := by
  rw [List.length_replicate]; decide
theorem ab_get : getF [([97], [98])] [97] = ([98], 0) := rfl

/-- One put, laid anew. -/
theorem put_new (w : World) (k b : List UInt8) (g : Bool) : PutsAt (w.alloc (.cells #[.string (S k), .string (S b), .bool g] 43)) (.slice (some ⟨w.heap.size, 0, none⟩) 1 1) [⟨k, b, g⟩] :=
  ⟨_, 1, rfl, .inr ⟨_, 0, rfl, fun j u hu => by
    rw [Nat.zero_add]
    exact ((Blk.new w 43 [.string (S k), .string (S b), .bool g]).cell j).trans (by simpa [putsCells, putCells1] using hu)⟩⟩

set_option maxRecDepth 100000 in
set_option maxHeartbeats 4000000 in
/-- law17.awake: the document's example. -/
theorem awake_spec (w : World) : Calls Tryz.prog 12 #[] w fun e w' => e = .returned (.bool true) ∧ Same w w' := by
  go_enter Tryz.func12, Tryz.ntmps12
  go_wp2_with fail
  refine (new_live 200 (by decide) (by decide)).mono ?_
  rintro e w1 ⟨L, rfl, k1, hfp, hD⟩
  go_wp2_with fail
  refine (open_live hD (new_good (by decide) (by decide))).mono ?_
  rintro e w2 ⟨s, rfl, hL, hs, k2⟩
  go_wp2_with fail
  refine (keys_live hL).mono ?_
  rintro e w3 ⟨v, rfl, hrow, k3⟩
  obtain ⟨A, c, rfl⟩ := own_form hrow
  have hL3 := hL.same k3
  have hp := put_new w3 [97] [98] false
  have kp : Same w3 (w3.alloc (.cells #[.string (S [97]), .string (S [98]), .bool false] 43)) := (Chg.refl _ w3).alloc _
  have hc := commit_sure (hL3.same kp) hp (by decide) ab_may rfl ab_need (by decide)
  rw [ab_puts] at hc
  have hkk : Same w w3 := (k1.trans k2).trans k3
  have hsw : w.heap.size ≤ s := Nat.le_trans k1.size hs
  clear hD hL hrow k3 hs
  go_wp2_with fail
  refine hc.mono ?_
  rintro e w4 ⟨L', D', idx', tab', rfl, _, _, _, k4, hL4, _, _⟩
  have k04 : Same w w4 := (hkk.trans kp).trans' k4 (fun _ _ h => h) (fun j hj e => by
    rcases e with e | e
    · omega
    · have := hfp j e; omega)
  have hg := get_live hL4 [97] (by decide)
  rw [ab_get] at hg
  go_wp2_with fail
  refine hg.mono ?_
  rintro e w5 ⟨rfl, k5⟩
  have k05 := k04.trans k5
  clear hg hc hp kp hkk k4 k5 hL4 k04 k1 k2 hfp
  have hS := S98
  go_wp2_with (first | (go_at_call 14; refine (err_spec _ _).mono ?_; rintro e w2 ⟨rfl, rfl⟩))
  go_ret
  exact ⟨rfl, k05⟩
end Go.Proofs.Obj

/- L15 -/
namespace Go.Proofs.Obj
open Go Go.RowKit Go.Shelf

/-- Numbers below 48 of bytes. -/
def intsF (l : List UInt8) : List Int := l.map fun x => ((x.toNat % 48 : Nat) : Int)
theorem ints_snoc (l : List UInt8) (x : UInt8) : (intsF l).map (Value.int .i64) ++ [.int .i64 ((x.toNat : Int) % 48)] = (intsF (l ++ [x])).map (.int .i64) := by
  simp [intsF]
/-- A slice of numbers. -/
def IntsAt (w : World) (v : Value) (l : List Int) : Prop := ∃ A cap, v = .slice A l.length cap ∧ Rd w A (l.map (.int .i64))

set_option maxRecDepth 100000 in
set_option maxHeartbeats 4000000 in
/-- law17.ints. -/
theorem ints_spec {w : World} {v : Value} {ns : List UInt8} (hv : BytesAt w v ns) (hn : ns.length ≤ 1048576) :
    Calls Tryz.prog 30 #[v] w fun e w' => ∃ v', e = .returned v' ∧ w'.ownsRow w.heap.size 3 1 v' ns.length ((intsF ns).map (.int .i64)) ∧ Same w w' := by
  obtain ⟨A, cap, rfl, hr⟩ := hv
  go_enter Tryz.func30, Tryz.ntmps30
  go_wp2
  go_loopw [3, 4] (fun o i wr => ∃ (j : Nat) (A3 : Option Addr) (c3 : Nat), j ≤ ns.length ∧ i = .int .i64 j ∧ o = .slice A3 j c3 ∧ wr.ownsRow w.heap.size 3 1 (.slice A3 j c3) j ((intsF (ns.take j)).map (.int .i64)) ∧ Same w wr) (fun _ i _ => ns.length - (intOf i).toNat)
  case atStart => exact ⟨0, none, 0, Nat.zero_le _, rfl, rfl, own_nil _ _ _ _, .refl _ _⟩
  case round =>
    obtain ⟨j, A3, c3, hj, rfl, rfl, hrow, hch⟩ := hrel
    by_cases hjt : j < ns.length
    · obtain ⟨b, off, rfl, hrr⟩ := (hr.same hch).at_ (by simp [u8s]; omega)
      have x0 := hrr j (.int .u8 (ns[j].toNat : Nat)) (by simp [u8s, hjt])
      have hk0 : ns[j].toNat < 256 := ns[j].toNat_lt
      have e5 := ints_snoc (ns.take j) ns[j]
      rw [List.take_append_getElem hjt] at e5
      have E5 := Lib.hid e5
      clear e5 hrr
      generalize ns[j].toNat = a at *
      have hm : ((a : Nat) : Int).tmod 48 = (a : Int) % 48 := by rw [Int.tmod_eq_emod_of_nonneg (by omega)]
      have hwr := hch.size
      go_wp2_with (at_builtin; refine app_own rfl (.tmp 11) (.tmp 18) 56 3 _ 1 8 rfl Tryz.underlying56 Tryz.info3 rfl (by decide) (by decide) w.heap.size (.slice A3 j c3) j ((intsF (ns.take j)).map (.int .i64)) [.int .i64 ((a : Int) % 48)] rfl rfl rfl ?c1 hrow hch.size ?c3 ?c4)
      case c1 => intro u hu; simp at hu; subst hu; rfl
      case c3 => omega
      case c4 =>
        intro g cap' W3 hrow3 k3 hg3
        rw [E5.out] at hrow3
        have hch3 : Same w W3 := hch.trans' k3 (fun _ _ h => h) (fun j hj e => absurd hj (Nat.not_lt.2 (own_base hrow e)))
        go_wp2
        go_roundw
        · exact ⟨j + 1, some ⟨g, 0, none⟩, cap', by omega, by simp, rfl, hrow3, hch3⟩
        · simp only [intOf]; omega
    · obtain rfl : j = ns.length := by omega
      rw [List.take_of_length_le (Nat.le_refl _)] at hrow
      go_wp2
      go_ret
      exact ⟨_, rfl, hrow, hch⟩
end Go.Proofs.Obj

/- L16r -/
namespace Go.Proofs.Obj
open Go Go.RowKit Go.Shelf

/-- A slice of slices of bytes. -/
def ByteRows (W : World) (v : Value) (ls : List (List UInt8)) : Prop := ∃ A cap, v = .slice A ls.length cap ∧ ∀ i (h : i < ls.length), ∃ b off vi, A = some ⟨b, off, none⟩ ∧ W.cell? ⟨b, off + i, none⟩ = some vi ∧ BytesAt W vi ls[i] ∧ ls[i].length ≤ 140737488355328
theorem ByteRows.same {w w' : World} {v : Value} {ls : List (List UInt8)} (h : ByteRows w v ls) (k : Same w w') : ByteRows w' v ls := by
  obtain ⟨A, cap, hv, h⟩ := h
  refine ⟨A, cap, hv, fun i hi => ?_⟩
  obtain ⟨b, off, vi, ha, hc, hb, hl⟩ := h i hi
  exact ⟨b, off, vi, ha, cell_chg k hc (fun h => h), hb.same k, hl⟩

/-- A store and a map, at some round of a law. -/
structure Round (w0 : World) (d q n j : Nat) (wr : World) (L : DL) (D : Dk) (s turn : Nat) (idx : List Nat) (tab : Tab) (m : MpL) (v1 v2 : Value) : Prop where
  hd : L.d = d
  live : LiveM wr L s D turn idx tab m
  fuse : D.fuse = -1
  len : D.firm.length = n
  turn : turn ≤ j
  blk : Blk wr q 32 [v1, v2]
  map : MapV wr (.agg #[v1, v2]) m
  from' : AggFrom (Away wr L s) (.agg #[v1, v2])
  hs : w0.heap.size ≤ s
  hfp : ∀ k, L.fp k → w0.heap.size ≤ k
  same : Same w0 wr

theorem Away.same {w w' : World} {L : DL} {s : Nat} (k : Same w w') : ∀ b, Away w L s b → Away w' L s b := fun b hb => ⟨Nat.lt_of_lt_of_le hb.1 k.size, hb.2⟩
theorem Round.then_same {w0 : World} {d q n j : Nat} {wr W : World} {L : DL} {D : Dk} {s turn : Nat} {idx : List Nat} {tab : Tab} {m : MpL} {v1 v2 : Value} (h : Round w0 d q n j wr L D s turn idx tab m v1 v2) (k : Same wr W) : Round w0 d q n j W L D s turn idx tab m v1 v2 :=
  ⟨h.hd, h.live.same k, h.fuse, h.len, h.turn, h.blk.same k, h.map.same k, h.from'.mono (Away.same k), h.hs, h.hfp, h.same.trans k⟩

/-- A store and a map behind a step: the map's value stands in a block of its own, too. -/
structure After (w0 : World) (q x : Nat) (vq1 vq2 : Value) (W : World) (L : DL) (D : Dk) (s turn : Nat) (idx : List Nat) (tab : Tab) (m : MpL) (v1 v2 : Value) : Prop where
  live : LiveM W L s D turn idx tab m
  map : MapV W (.agg #[v1, v2]) m
  from' : AggFrom (Away W L s) (.agg #[v1, v2])
  bx : Blk W x 32 [v1, v2]
  bq : Blk W q 32 [vq1, vq2]
  same : Same w0 W
section
variable {w0 wr w4 w5 : World} {d q n j : Nat} {L L' : DL} {D D' : Dk} {s turn turn' : Nat} {idx idx' : List Nat} {tab tab' : Tab} {m m' : MpL} {v1 v2 u1 u2 : Value}
theorem Round.same5 (hR : Round w0 d q n j wr L D s turn idx tab m v1 v2) (ks : Chg (fun k => k = s ∨ L.fp k) wr w5) : Same w0 w5 :=
  hR.same.trans' ks (fun _ _ h => h) (fun k hk e => e.elim (fun e => absurd hR.hs (by omega)) (fun e => absurd (hR.hfp k e) (by omega)))
theorem Round.qT (hR : Round w0 d q n j wr L D s turn idx tab m v1 v2) : ¬ (q = s ∨ L.fp q) := fun e => e.elim (fun e => by
  obtain ⟨_, _, _, hsb, _⟩ := hR.live.store
  exact Blk.type_ne hsb hR.blk (by decide) e.symm) (hR.live.disk.ne_of hR.blk (by decide) (by decide) (by decide))
theorem Round.newT (hR : Round w0 d q n j wr L D s turn idx tab m v1 v2) (x : Nat) (hx : wr.heap.size ≤ x) : ¬ (x = s ∨ L.fp x) := fun e => e.elim (fun e => by have := hR.live.s_lt; omega) (fun e => by have := hR.live.disk.fp_lt e; omega)
theorem Round.oldT (hR : Round w0 d q n j wr L D s turn idx tab m v1 v2) (x : Nat) (hx : x < w0.heap.size) : ¬ (x = s ∨ L.fp x) := fun e => e.elim (fun e => by have := hR.hs; omega) (fun e => by have := hR.hfp x e; omega)
theorem after_put (hR : Round w0 d q n j wr L D s turn idx tab m v1 v2) (hL' : LiveM w5 L' s D' turn' idx' tab' m') (hm' : MapV w5 (.agg #[u1, u2]) m') (hf' : AggFrom (Away w5 L' s) (.agg #[u1, u2])) (ks : Chg (fun k => k = s ∨ L.fp k) wr w5)
    {x : Nat} (hx : wr.heap.size ≤ x) (hz : Blk w5 x 32 [.slice none 0 0, .slice none 0 0]) : After w0 q x v1 v2 ((w5.setCell ⟨x, 0, none⟩ u1).setCell ⟨x, 1, none⟩ u2) L' D' s turn' idx' tab' m' u1 u2 := by
  have kp := Chg.put2 w5 x u1 u2
  have h1 := hR.blk.lt
  have h2 := hR.same.size
  exact ⟨hL'.chg1 hz kp, hm'.chg1 hz kp, hf'.mono (fun b hb => ⟨Nat.lt_of_lt_of_le hb.1 kp.size, hb.2⟩), hz.put2 _ _, (hR.blk.chg ks hR.qT).chg kp (by omega), (hR.same5 ks).trans' kp (fun _ _ h => h) (fun k hk e => by omega)⟩
theorem after_alloc (hR : Round w0 d q n j wr L D s turn idx tab m v1 v2) (hL' : LiveM w5 L' s D' turn' idx' tab' m') (hm' : MapV w5 (.agg #[u1, u2]) m') (hf' : AggFrom (Away w5 L' s) (.agg #[u1, u2])) (ks : Chg (fun k => k = s ∨ L.fp k) wr w5) :
    After w0 q w5.heap.size v1 v2 (w5.alloc (.cells #[u1, u2] 32)) L' D' s turn' idx' tab' m' u1 u2 := by
  have kp : Same w5 (w5.alloc (.cells #[u1, u2] 32)) := (Chg.refl _ w5).alloc _
  exact ⟨hL'.same kp, hm'.same kp, hf'.mono (Away.same kp), Blk.new w5 32 _, (hR.blk.chg ks hR.qT).same kp, (hR.same5 ks).trans kp⟩
theorem Round.next (hR : Round w0 d q n j wr L D s turn idx tab m v1 v2) {x : Nat} {W : World} (hA : After w0 q x v1 v2 W L' D' s turn' idx' tab' m' u1 u2) (hq : w0.heap.size ≤ q) (hfu : D'.fuse = -1) (hlen : D'.firm.length = D.firm.length) (hd : L'.d = L.d) (hfp : ∀ k, L'.fp k → L.fp k ∨ w4.heap.size ≤ k) (h4 : w0.heap.size ≤ w4.heap.size) (ht : turn' ≤ turn + 1) :
    Round w0 d q n (j + 1) ((W.setCell ⟨q, 0, none⟩ u1).setCell ⟨q, 1, none⟩ u2) L' D' s turn' idx' tab' m' u1 u2 := by
  have kp := Chg.put2 W q u1 u2
  obtain ⟨A1, c1, A2, c2, he⟩ := hR.map.form
  cases he
  have := hR.turn
  exact ⟨hd.trans hR.hd, hA.live.chg1 hA.bq kp, hfu, hlen.trans hR.len, by omega, hA.bq.put2 _ _, hA.map.chg1 hA.bq kp, hA.from'.mono (fun b hb => ⟨Nat.lt_of_lt_of_le hb.1 kp.size, hb.2⟩), hR.hs, fun k hk => (hfp k hk).elim (hR.hfp k) (fun h => Nat.le_trans h4 h), hA.same.trans' kp (fun _ _ h => h) (fun k hk e => by omega)⟩
theorem Round.reopen (hR : Round w0 d q n j wr L D s turn idx tab m v1 v2) {W : World} {s2 : Nat} (k : Same wr W) (hL : LiveM W L s2 D turn idx tab m) (hs : wr.heap.size ≤ s2) : Round w0 d q n j W L D s2 turn idx tab m v1 v2 :=
  have h2 := hR.same.size
  ⟨hR.hd, hL, hR.fuse, hR.len, hR.turn, hR.blk.same k, hR.map.same k, hR.from'.mono (fun b hb => ⟨Nat.lt_of_lt_of_le hb.1 k.size, by have := hb.1; omega, hb.2.2⟩), by omega, hR.hfp, hR.same.trans k⟩
end
end Go.Proofs.Obj
