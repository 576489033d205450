/- What is proved here: contracts of the statements' helpers. No condition but what each theorem says. -/
import Derived.Test.YtiiinmleiigckaaGreatDoorGZ
set_option linter.unusedVariables false
set_option linter.unusedSimpArgs false

/- L8 -/
namespace Go.Proofs.Obj
open Go Go.RowKit Go.Shelf

theorem mpPuts_snoc (m : MpL) (l : List PutM) (p : PutM) : mpPuts m (l ++ [p]) = mpPut (mpPuts m l) p := by
  unfold mpPuts; rw [List.foldl_append]; rfl

/-- No text stands in a block of two slices: it may be written. -/
theorem TextsAt.chg1 {w w' : World} {v : Value} {l : List (List UInt8)} (h : TextsAt w v l) {q : Nat} {t : TypeId} {a1 a2 : Option Addr} {n1 n2 c1 c2 : Nat} (hb : Blk w q t [.slice a1 n1 c1, .slice a2 n2 c2]) (k : Chg (fun k => k = q) w w') : TextsAt w' v l := by
  obtain ⟨A, cap, rfl, h⟩ := h
  refine ⟨A, cap, rfl, ?_⟩
  rcases h with h | ⟨b, off, e, h⟩
  · exact .inl h
  · by_cases hl : 0 < l.length
    · refine .inr ⟨b, off, e, h.chg k (fun hq => ?_)⟩
      have h0 := h 0 (.string (S l[0])) (by simp [keyCells, hl])
      rw [hq, hb.cell] at h0
      match off, h0 with
      | 0, h0 => simp at h0
      | 1, h0 => simp at h0
      | n + 2, h0 => simp at h0
    · exact .inl (by rw [List.eq_nil_of_length_eq_zero (by omega : l.length = 0)]; rfl)
theorem MapV.chg1 {w w' : World} {v : Value} {m : MpL} (h : MapV w v m) {q : Nat} {t : TypeId} {a1 a2 : Option Addr} {n1 n2 c1 c2 : Nat} (hb : Blk w q t [.slice a1 n1 c1, .slice a2 n2 c2]) (k : Chg (fun k => k = q) w w') : MapV w' v m := by
  obtain ⟨v1, v2, rfl, h1, h2⟩ := h
  exact ⟨v1, v2, rfl, h1.chg1 hb k, h2.chg1 hb k⟩
theorem MapV.form {w : World} {v : Value} {m : MpL} (h : MapV w v m) : ∃ A1 c1 A2 c2, v = .agg #[.slice A1 m.length c1, .slice A2 m.length c2] := by
  obtain ⟨_, _, rfl, ⟨A1, c1, rfl, _⟩, ⟨A2, c2, rfl, _⟩⟩ := h
  exact ⟨A1, c1, A2, c2, by simp⟩

set_option maxRecDepth 100000 in
set_option maxHeartbeats 4000000 in
/-- Map.Commit. -/
theorem mapCommit_spec {w : World} {v vl : Value} {m : MpL} {l : List PutM} (hm : MapV w v m) (hp : PutsAt w vl l) (hr : RisingK m) {P : Nat → Prop} (hf : AggFrom P v) (hl : m.length + l.length ≤ 100000) (hs : ∀ x ∈ m, x.1.length ≤ 300 ∧ x.2.length ≤ 131072) (hpl : ∀ p ∈ l, p.key.length ≤ 300 ∧ p.blob.length ≤ 131072) :
    Calls Tryz.prog 19 #[v, vl] w fun e w' => ∃ v', e = .returned v' ∧ MapV w' v' (mpPuts m l) ∧ AggFrom (fun b => P b ∨ (w.heap.size ≤ b ∧ b < w'.heap.size)) v' ∧ Same w w' := by
  obtain ⟨v1, v2, rfl, ⟨A1, c1, rfl, r1⟩, ⟨A2, c2, rfl, r2⟩⟩ := hm
  have hf0 : ∀ W : World, AggFrom (fun b => P b ∨ (w.heap.size ≤ b ∧ b < W.heap.size)) (.agg #[.slice A1 (m.map (·.1)).length c1, .slice A2 (m.map (·.2)).length c2]) := fun W => hf.mono (fun _ h => .inl h)
  clear hf
  simp only [List.length_map] at hf0
  obtain ⟨A, cap, rfl, hrp⟩ := hp
  have hgen : ∃ w0 : World, (w.alloc (.cells #[.slice A1 (m.map (·.1)).length c1, .slice A2 (m.map (·.2)).length c2] 32)).alloc (.cells #[.slice none 0 0, .slice none 0 0] 32) = w0 ∧ Blk w0 w.heap.size 32 [.slice A1 (m.map (·.1)).length c1, .slice A2 (m.map (·.2)).length c2] ∧ Blk w0 (w.heap.size + 1) 32 [.slice none 0 0, .slice none 0 0] ∧ Same w w0 := by
    have h3 := Blk.new (w.alloc (.cells #[.slice A1 (m.map (·.1)).length c1, .slice A2 (m.map (·.2)).length c2] 32)) 32 [.slice none 0 0, .slice none 0 0]
    simp only [World.size_alloc] at h3
    exact ⟨_, rfl, (Blk.new w 32 [.slice A1 (m.map (·.1)).length c1, .slice A2 (m.map (·.2)).length c2]).alloc _, h3, ((Chg.refl _ w).alloc _).alloc _⟩
  go_enter Tryz.func19, Tryz.ntmps19
  go_wp2
  obtain ⟨w0, hw0, hb2, hb4, k0⟩ := hgen
  simp only [List.length_map] at hw0 hb2
  rw [hw0]
  clear hw0
  go_loopw [5] (fun i wr => ∃ (j : Nat) (A3 : Option Addr) (n3 c3 : Nat) (A4 : Option Addr) (n4 c4 : Nat), j ≤ l.length ∧ i = .int .i64 j ∧ Blk wr w.heap.size 32 [.slice A3 n3 c3, .slice A4 n4 c4] ∧ MapV wr (.agg #[.slice A3 n3 c3, .slice A4 n4 c4]) (mpPuts m (l.take j)) ∧ AggFrom (fun b => P b ∨ (w.heap.size ≤ b ∧ b < wr.heap.size)) (.agg #[.slice A3 n3 c3, .slice A4 n4 c4]) ∧ Blk wr (w.heap.size + 1) 32 [.slice none 0 0, .slice none 0 0] ∧ Same w wr) (fun i _ => l.length - (intOf i).toNat)
  case atStart => exact ⟨0, A1, _, c1, A2, _, c2, Nat.zero_le _, rfl, by simpa using hb2, ⟨_, _, rfl, ⟨A1, c1, by rw [List.length_map]; rfl, r1.same k0⟩, ⟨A2, c2, by rw [List.length_map]; rfl, r2.same k0⟩⟩, hf0 _, hb4, k0⟩
  case round =>
    obtain ⟨j, A3, n3, c3, A4, n4, c4, hj, rfl, hbq, hmv, hfv, hb4r, kw⟩ := hrel
    have hwr := kw.size
    obtain ⟨q0, q1, f0, f1, q01, f01⟩ := hbq.st2
    by_cases hjt : j < l.length
    · obtain ⟨b, off, rfl, hrr⟩ := (hrp.same kw).at_ (by
        have := (List.getElem?_eq_some_iff.1 (putsCells_at l j hjt).1).1
        omega)
      have hb' : b < w.heap.size := by
        obtain ⟨b', off', e, hr'⟩ := hrp.at_ (by
          have := (List.getElem?_eq_some_iff.1 (putsCells_at l j hjt).1).1
          omega)
        cases e
        exact World.block_lt_of_cell? w _ (hr' _ _ (putsCells_at l j hjt).1)
      have p0 := hrr _ _ (putsCells_at l j hjt).1
      have p1 := hrr _ _ (putsCells_at l j hjt).2.1
      have p2 := hrr _ _ (putsCells_at l j hjt).2.2
      rw [← Nat.add_assoc] at p1 p2
      have hpj := hpl _ (List.getElem_mem hjt)
      have htk := List.take_append_getElem hjt
      have hsm := mpPuts_small (l.take j) (m := m) (n := 100000) (by rw [List.length_take]; omega) hs (fun p hp => hpl p (List.mem_of_mem_take hp))
      have hri := mpPuts_rising (l.take j) hr
      have hw := fun W (k : Same wr W) => with_spec (w := W) (p := l[j]) (hmv.same k) (by omega) (fun x hx => by have := hsm.2 x hx; omega) (by omega)
      rw [with_mp _ hri, ← mpPuts_snoc, htk] at hw
      clear htk hsm hri hrr hmv
      generalize l[j] = p at *
      go_wp2
      go_region_with (first | (go_at_call 40; refine (hw _ (Chg.refl _ wr).drew).mono ?_; rintro e w1 ⟨_, rfl, hm1, hf1, k1⟩; obtain ⟨A5, c5, A6, c6, rfl⟩ := hm1.form; have hb1 := Blk.same hbq (((Chg.refl _ wr).drew).trans k1); obtain ⟨q10, q11, f10, f11, q101, f101⟩ := hb1.st2))
      all_goals
        have k2 := Chg.put2 w1 w.heap.size (.slice A5 (mpPuts m (l.take (j + 1))).length c5) (.slice A6 (mpPuts m (l.take (j + 1))).length c6)
        have hb2 := hb1.put2 (.slice A5 (mpPuts m (l.take (j + 1))).length c5) (.slice A6 (mpPuts m (l.take (j + 1))).length c6)
        have hm2 := hm1.chg1 hb1 k2
        have hb5 := Blk.chg (Blk.same hb4r (((Chg.refl _ wr).drew).trans k1)) k2 (by omega)
        have kw2 := ((kw.trans (Chg.refl _ wr).drew).trans k1).trans' (U := fun _ => False) k2 (fun _ _ h => h) (fun j hj e => by omega)
        go_wp2
        go_roundw
        · exact ⟨j + 1, _, _, _, _, _, _, by omega, rfl, hb2, hm2, hf1.mono (fun b hb => .inr ⟨Nat.le_trans hwr hb.1, Nat.lt_of_lt_of_le hb.2 k2.size⟩), hb5, kw2⟩
        · simp only [intOf]; omega
    · obtain rfl : j = l.length := by omega
      rw [List.take_of_length_le (Nat.le_refl _)] at hmv
      obtain ⟨z0, z1, z2, z3⟩ := hb4r.st2
      have k2 := Chg.put2 wr (w.heap.size + 1) (.slice A3 n3 c3) (.slice A4 n4 c4)
      have hb5 := hb4r.put2 (.slice A3 n3 c3) (.slice A4 n4 c4)
      have hm2 := hmv.chg1 hb4r k2
      go_wp2
      refine bodyPost_ret_by (results_cell_row rfl _ _ (w.heap.size + 1) 32 #[_, _] (0, 0) _ rfl hb5 Tryz.underlying32 rfl (by kernel_rfl)) rfl ?_
      exact ⟨_, rfl, hm2, hfv.mono (fun b hb => hb.imp id (fun h => ⟨h.1, Nat.lt_of_lt_of_le h.2 k2.size⟩)), kw.trans' (U := fun _ => False) k2 (fun _ _ h => h) (fun j hj e => by omega)⟩
end Go.Proofs.Obj

/- L9 -/
namespace Go.Proofs.Obj
open Go Go.RowKit Go.Shelf

/-- A slice of bytes. -/
def BytesAt (w : World) (v : Value) (b : List UInt8) : Prop := ∃ A cap, v = .slice A b.length cap ∧ Rd w A (u8s b)
theorem BytesAt.same {w w' : World} {v : Value} {b : List UInt8} (h : BytesAt w v b) (k : Same w w') : BytesAt w' v b := by
  obtain ⟨A, cap, hv, h⟩ := h
  exact ⟨A, cap, hv, h.same k⟩

theorem Tryz.info43 : (Tryz.prog.info? 43).map (fun i => (i.zero, i.size, i.bytes)) = some (some (.agg #[.string ⟨#[]⟩, .string ⟨#[]⟩, .bool false]), 3, 40) := by kernel_rfl
/-- A slice in blocks of P. -/
def RowFrom (P : Nat → Prop) (v : Value) : Prop := ∃ A n c, v = .slice A n c ∧ ∀ a, A = some a → P a.block
theorem RowFrom.mono {P Q : Nat → Prop} {v : Value} (h : RowFrom P v) (hpq : ∀ b, P b → Q b) : RowFrom Q v := by
  obtain ⟨A, n, c, hv, h1⟩ := h
  exact ⟨A, n, c, hv, fun a e => hpq _ (h1 a e)⟩
theorem PutsAt.chg {w w' : World} {v : Value} {l : List PutM} (h : PutsAt w v l) {P S : Nat → Prop} (hp : RowFrom P v) (k : Chg S w w') (hn : ∀ b, P b → ¬ S b) : PutsAt w' v l := by
  obtain ⟨A, n, c, rfl, h1⟩ := hp
  obtain ⟨A', cap, hv, h⟩ := h
  cases hv
  exact ⟨A, _, rfl, h.chg k (fun a e => hn _ (h1 a e))⟩
def keys5 : List (List UInt8) := [[97], [98], [107, 101, 121, 47, 99], [100], [101]]

set_option maxRecDepth 100000 in
set_option maxHeartbeats 4000000 in
theorem puts_spec {w : World} {v : Value} {ns : List UInt8} (hv : BytesAt w v ns) (hn : ns.length ≤ 140737488355328) :
    Calls Tryz.prog 16 #[v] w fun e w' => ∃ v' l, e = .returned v' ∧ PutsAt w' v' l ∧ RowFrom (fun b => w.heap.size ≤ b ∧ b < w'.heap.size) v' ∧ l.length ≤ 4 ∧ mayF l = true ∧ (∀ p ∈ l, (p.key.length ≤ 300 ∧ p.blob.length ≤ 131072) ∧ p.key ∈ keys5) ∧ Same w w' := by
  obtain ⟨A, cap, rfl, hr⟩ := hv
  go_enter Tryz.func16, Tryz.ntmps16
  go_wp2
  go_loopw [3, 4] (fun lv i wr => ∃ (l : List PutM) (n : Nat) (A3 : Option Addr) (c3 : Nat), n ≤ ns.length ∧ i = .int .i64 n ∧ lv = .slice A3 l.length c3 ∧ wr.ownsRow w.heap.size 43 3 (.slice A3 l.length c3) l.length (putsCells l) ∧ Hid (mayF l = true) ∧ l.length ≤ 4 ∧ Hid (∀ p ∈ l, (p.key.length ≤ 300 ∧ p.blob.length ≤ 131072) ∧ p.key ∈ keys5) ∧ Same w wr) (fun _ i _ => ns.length - (intOf i).toNat)
  case atStart => exact ⟨[], 0, none, 0, Nat.zero_le _, rfl, rfl, own_nil _ _ _ _, Lib.hid rfl, Nat.zero_le _, Lib.hid (by simp), .refl _ _⟩
  case round =>
    obtain ⟨l, n, A3, c3, hnl, rfl, rfl, hrow, Hmay, hl4, Hsm, hch⟩ := hrel
    have hwsz := hch.size
    by_cases hgo : n + 2 < ns.length ∧ l.length < 4
    · obtain ⟨hn2, hll⟩ := hgo
      obtain ⟨b, off, rfl, hrr⟩ := (hr.same hch).at_ (by simp [u8s]; omega)
      have hx : ∀ j (hj : j < ns.length), (u8s ns)[j]? = some (.int .u8 (ns[j].toNat : Nat)) := fun j hj => by simp [u8s, hj]
      have x0 := hrr n _ (hx n (by omega))
      have x1 := hrr (n + 1) _ (hx (n + 1) (by omega))
      have x2 := hrr (n + 2) _ (hx (n + 2) hn2)
      have hk0 : ns[n].toNat < 256 := ns[n].toNat_lt
      have hk1 : ns[n + 1].toNat < 256 := ns[n + 1].toNat_lt
      have hk2 : ns[n + 2].toNat < 256 := ns[n + 2].toNat_lt
      generalize ns[n].toNat = a0 at *
      generalize ns[n + 1].toNat = a1 at *
      generalize ns[n + 2].toNat = a2 at *
      have hli : ((l.length : Nat) : Int) < 4 := by omega
      have hW1 : Same wr (wr.alloc (.cells #[.string ⟨#[97]⟩, .string ⟨#[98]⟩, .string ⟨#[107, 101, 121, 47, 99]⟩, .string ⟨#[100]⟩, .string ⟨#[101]⟩] 9)) := (Chg.refl _ wr).alloc _
      obtain ⟨key, hkey, hkl, Hk5⟩ : ∃ key : List UInt8, [Value.string ⟨#[97]⟩, .string ⟨#[98]⟩, .string ⟨#[107, 101, 121, 47, 99]⟩, .string ⟨#[100]⟩, .string ⟨#[101]⟩][a0 % 5]? = some (.string (S key)) ∧ (0 < key.length ∧ key.length ≤ 5) ∧ Hid (key ∈ keys5) := by
        have h5 : a0 % 5 < 5 := Nat.mod_lt _ (by omega)
        generalize a0 % 5 = r at *
        match r, h5 with
        | 0, _ => exact ⟨[97], rfl, by decide, Lib.hid (by decide)⟩
        | 1, _ => exact ⟨[98], rfl, by decide, Lib.hid (by decide)⟩
        | 2, _ => exact ⟨[107, 101, 121, 47, 99], rfl, by decide, Lib.hid (by decide)⟩
        | 3, _ => exact ⟨[100], rfl, by decide, Lib.hid (by decide)⟩
        | 4, _ => exact ⟨[101], rfl, by decide, Lib.hid (by decide)⟩
      obtain ⟨W1, hW1e, hW1s, k1⟩ : ∃ W1 : World, wr.alloc (.cells #[.string ⟨#[97]⟩, .string ⟨#[98]⟩, .string ⟨#[107, 101, 121, 47, 99]⟩, .string ⟨#[100]⟩, .string ⟨#[101]⟩] 9) = W1 ∧ W1.heap.size = wr.heap.size + 1 ∧ Same wr W1 := ⟨_, rfl, by simp, hW1⟩
      have hr5 : ∀ r, W1.cell? ⟨wr.heap.size, r, none⟩ = [Value.string ⟨#[97]⟩, .string ⟨#[98]⟩, .string ⟨#[107, 101, 121, 47, 99]⟩, .string ⟨#[100]⟩, .string ⟨#[101]⟩][r]? := fun r => by
        rw [← hW1e]
        exact (Blk.new wr 9 [.string ⟨#[97]⟩, .string ⟨#[98]⟩, .string ⟨#[107, 101, 121, 47, 99]⟩, .string ⟨#[100]⟩, .string ⟨#[101]⟩]).cell r
      have yk := (hr5 (a0 % 5)).trans hkey
      have y0 := cell_chg k1 x0 (fun h => h)
      have hP2 : ∀ y z, Blk (W1.alloc (.cells #[.string (S key), y, z] 43)) (wr.heap.size + 1) 43 [.string (S key), y, z] := fun y z => by
        have h := Blk.new W1 43 [.string (S key), y, z]
        rw [hW1s] at h
        exact h
      have k2 : ∀ y z, Same wr (W1.alloc (.cells #[.string (S key), y, z] 43)) := fun y z => k1.alloc _
      have v0 := cell_chg (k2 (.string ⟨#[]⟩) (.bool false)) x0 (fun h => h)
      have v1 := cell_chg (k2 (.string ⟨#[]⟩) (.bool false)) x1 (fun h => h)
      clear hr5 hkey hW1
      by_cases hg : (200 : Int) ≤ (a0 : Nat)
      · go_wp2
        have hSW := k2 (.string ⟨#[]⟩) (.bool true)
        have hP := hP2 (.string (S [])) (.bool true)
        change Blk (W1.alloc (.cells #[.string (S key), .string ⟨#[]⟩, .bool true] 43)) (wr.heap.size + 1) 43 [.string (S key), .string (S []), .bool true] at hP
        clear v0 v1 y0 yk
        generalize W1.alloc (.cells #[.string (S key), .string ⟨#[]⟩, .bool true] 43) = W at *
        have hlW := hSW.size
        have hbl : ([] : List UInt8).length ≤ 131072 := by decide
        go_loopw [8, 9] (fun tw k wk => ∃ (i : Nat) (tb : Bool), i ≤ l.length ∧ tw = .bool tb ∧ k = .int .i64 i ∧ Hid (tb = false → ∀ q p, q < i → l[q]? = some p → p.key ≠ key) ∧ Same W wk) (fun _ k _ => l.length - (intOf k).toNat)
        case atStart => exact ⟨0, false, Nat.zero_le _, rfl, rfl, Lib.hid (fun _ q p h => by omega), .refl _ _⟩
        case round =>
          obtain ⟨i, tb, hi, rfl, rfl, Hne, hck⟩ := hrel
          have hPk := hP.same hck
          obtain ⟨z0, z1, z2, f0, f1, f2, _⟩ := hPk.st3
          have hrowk := own_chg hrow (hSW.trans hck) (fun _ _ h => h)
          by_cases hil : i < l.length
          · have hpc : 0 < (putsCells l).length := by
              have := (List.getElem?_eq_some_iff.1 (putsCells_at l i hil).1).1
              omega
            obtain ⟨g3, hg3⟩ : ∃ g3, A3 = some ⟨g3, 0, none⟩ := by
              rcases hrow.2 with ⟨he, h0⟩ | ⟨g, cap, cur, he, _⟩
              · omega
              · cases he; exact ⟨g, rfl⟩
            subst hg3
            have c0 := own_rd hrowk _ _ (putsCells_at l i hil).1
            rw [Nat.zero_add] at c0
            have hse := strEq l[i].key key
            by_cases he : l[i].key = key
            · rw [decide_eq_true he] at hse
              generalize S l[i].key = s3 at *
              generalize S key = s4 at *
              cases tb with
              | false =>
                go_wp2
                go_big_quiet (fail)
                go_wp2
                exact ⟨⟨i + 1, true, by omega, rfl, rfl, Lib.hid (fun h => by cases h), hck.drewN _⟩, by simp only [intOf]; omega⟩
              | true =>
                go_wp2
                go_big_quiet (fail)
                go_wp2
                exact ⟨⟨i + 1, true, by omega, rfl, rfl, Lib.hid (fun h => by cases h), hck.drewN _⟩, by simp only [intOf]; omega⟩
            · rw [decide_eq_false he] at hse
              have hne2 : tb = false → ∀ q p, q < i + 1 → l[q]? = some p → p.key ≠ key := fun ht q p hq hp => by
                by_cases e : q = i
                · subst e
                  obtain ⟨h, rfl⟩ := List.getElem?_eq_some_iff.1 hp
                  exact he
                · exact Hne.out ht q p (by omega) hp
              have Hne2 := Lib.hid hne2
              clear he hne2
              generalize S l[i].key = s3 at *
              generalize S key = s4 at *
              cases tb with
              | false =>
                go_wp2
                go_big_quiet (fail)
                go_wp2
                exact ⟨⟨i + 1, false, by omega, rfl, rfl, Lib.hid (fun _ => Hne2.out trivial), hck.drewN _⟩, by simp only [intOf]; omega⟩
              | true =>
                go_wp2
                go_big_quiet (fail)
                go_wp2
                exact ⟨⟨i + 1, true, by omega, rfl, rfl, Lib.hid (fun h => by cases h), hck.drewN _⟩, by simp only [intOf]; omega⟩
          · obtain rfl : i = l.length := by omega
            have hcw := (hch.trans hSW).trans hck
            cases tb with
            | true =>
              go_wp2
              go_roundw
              · exact ⟨l, n + 3, A3, c3, by omega, rfl, rfl, hrowk, Hmay, by omega, Hsm, hcw⟩
              · simp only [intOf]; omega
            | false =>
              go_wp2_with (at_builtin; refine app_own rfl (.tmp 84) (.tmp 86) 36 43 _ 3 40 rfl Tryz.underlying36 Tryz.info43 rfl (by decide) (by decide) w.heap.size (.slice A3 l.length c3) l.length (putsCells l) [.string (S key), .string (S []), .bool true] rfl rfl rfl ?c1 hrowk hcw.size ?c3 ?c4)
              case c1 => exact ⟨rfl, rfl, rfl⟩
              case c3 => omega
              case c4 =>
                intro g cap' W3 hrow3 k3 hg3
                have hmay : mayF (l ++ [⟨key, [], true⟩]) = true := by
                  rw [mayF_snoc, Hmay.out, Bool.true_and]
                  have hk : (l.map (·.key)).contains key = false := by
                    have := (take_keys l l.length key).2 (Hne.out trivial)
                    rwa [List.take_length] at this
                  rw [hk]
                  simp only [Bool.and_true, Bool.not_false, decide_eq_true_eq, not_or]
                  omega
                have hsm : ∀ p ∈ l ++ [⟨key, [], true⟩], (p.key.length ≤ 300 ∧ p.blob.length ≤ 131072) ∧ p.key ∈ keys5 := by
                  intro p hp
                  rcases List.mem_append.1 hp with hp | hp
                  · exact Hsm.out p hp
                  · simp only [List.mem_singleton] at hp; subst hp; exact ⟨by dsimp only; omega, Hk5.out⟩
                have e6 : (l ++ [(⟨key, [], true⟩ : PutM)]).length = l.length + 1 := by simp
                have e5 : putsCells l ++ [.string (S key), .string (S []), .bool true] = putsCells (l ++ [⟨key, [], true⟩]) := by simp [putsCells, putCells1]
                rw [e5] at hrow3
                have hch3 : Same w W3 := hcw.trans' k3 (fun _ _ h => h) (fun j hj e => absurd hj (Nat.not_lt.2 (own_base hrowk e)))
                have Hmay2 := Lib.hid hmay
                have Hsm2 := Lib.hid hsm
                have hrow4 : W3.ownsRow w.heap.size 43 3 (.slice (some ⟨g, 0, none⟩) (l ++ [(⟨key, [], true⟩ : PutM)]).length cap') (l ++ [(⟨key, [], true⟩ : PutM)]).length (putsCells (l ++ [⟨key, [], true⟩])) := by rw [e6]; exact hrow3
                clear hmay hsm e5 hrow3
                go_wp2
                go_roundw
                · exact ⟨l ++ [⟨key, [], true⟩], n + 3, some ⟨g, 0, none⟩, cap', by omega, rfl, by rw [e6], hrow4, Hmay2, by omega, Hsm2, hch3⟩
                · simp only [intOf]; omega
      · obtain ⟨mm, hmm, hm5⟩ : ∃ mm : Nat, (a1 : Int) * 2 = (mm : Int) ∧ mm ≤ 510 := ⟨a1 * 2, by omega, by omega⟩
        have hmk : ∀ W, (Instr.makeSlice 38 (.int .i64 (mm : Int)) (.int .i64 (mm : Int))).run Tryz.prog W = .ok (.slice (some ⟨W.heap.size, 0, none⟩) mm mm) (W.alloc (.cells (zero8 mm).toArray 5)) := fun W => make_eq 38 5 (.int .u8 0) 1 Tryz.underlying38 Tryz.info5 rfl mm (by omega) (by omega) W
        go_wp2
        have hB4 := Blk.new (W1.alloc (.cells #[.string (S key), .string ⟨#[]⟩, .bool false] 43)) 5 (zero8 mm)
        rw [World.size_alloc, hW1s] at hB4
        have hP4 := (hP2 (.string ⟨#[]⟩) (.bool false)).alloc (.cells (zero8 mm).toArray 5)
        have k4 := (k2 (.string ⟨#[]⟩) (.bool false)).alloc (.cells (zero8 mm).toArray 5)
        clear v0 v1 y0 yk hmk
        generalize (W1.alloc (.cells #[.string (S key), .string ⟨#[]⟩, .bool false] 43)).alloc (.cells (zero8 mm).toArray 5) = W4 at *
        obtain ⟨wo, hwo⟩ : ∃ wo : World, wo = wr := ⟨_, rfl⟩
        subst hwo
        go_loopw [7] (fun c wk => ∃ bs : List UInt8, bs.length ≤ mm ∧ c = .int .i64 bs.length ∧ Blk wk (wo.heap.size + 1 + 1) 5 (u8s bs ++ zero8 (mm - bs.length)) ∧ Blk wk (wo.heap.size + 1) 43 [.string (S key), .string ⟨#[]⟩, .bool false] ∧ Same wo wk) (fun c _ => mm - (intOf c).toNat)
        case atStart => exact ⟨[], Nat.zero_le _, rfl, by simpa [u8s] using hB4, hP4, k4⟩
        case round =>
          obtain ⟨bs, hbl, rfl, hB, hPk, hck⟩ := hrel
          by_cases hlt : bs.length < mm
          · have hl : (u8s bs ++ zero8 (mm - bs.length)).length = mm := by simp [u8s, zero8]; omega
            have c0 := hB.cell bs.length
            rw [List.getElem?_eq_getElem (by omega)] at c0
            have f0 := hB.frozen bs.length
            generalize (u8s bs ++ zero8 (mm - bs.length))[bs.length]'(by omega) = v0 at *
            have v2 := cell_chg hck x2 (fun h => h)
            go_wp2
            have hy : (((UInt8.ofNat (a2 + bs.length)).toNat : Nat) : Int) = ((a2 : Int) + (bs.length : Int)) % 256 := by
              rw [UInt8.toNat_ofNat']; omega
            generalize UInt8.ofNat (a2 + bs.length) = y at *
            have hnx := hB.setCell bs.length (.int .u8 (y.toNat : Nat))
            have hse : (u8s bs ++ zero8 (mm - bs.length)).set bs.length (.int .u8 (y.toNat : Nat)) = u8s (bs ++ [y]) ++ zero8 (mm - (bs ++ [y]).length) := by
              have e1 : (u8s bs).length = bs.length := u8s_length _
              have e2 : mm - bs.length = (mm - (bs ++ [y]).length) + 1 := by rw [List.length_append, List.length_singleton]; omega
              rw [List.set_append_right _ _ (by omega), e1, Nat.sub_self, e2, u8s_append]
              simp [zero8, List.replicate_succ, u8s]
            rw [hse] at hnx
            clear hse
            rw [← hy]
            refine ⟨⟨bs ++ [y], by rw [List.length_append, List.length_singleton]; omega, by rw [List.length_append, List.length_singleton]; simp, hnx, hPk.setOther _ _ (by show wo.heap.size + 1 ≠ wo.heap.size + 1 + 1; omega), hck.setCell (fun h => absurd h (by show ¬ wo.heap.size + 1 + 1 < wo.heap.size; omega)) _⟩, ?_⟩
            simp only [intOf]; omega
          · obtain rfl : mm = bs.length := by omega
            have hbk := back_blk (W := wr) (g := wo.heap.size + 1 + 1) (l := bs) (by rw [Nat.sub_self] at hB; simpa [zero8] using hB) bs.length
            obtain ⟨z0, z1, z2, f0, f1, f2, _⟩ := hPk.st3
            have hSW := hck.setCell (p := ⟨wo.heap.size + 1, 1, none⟩) (fun h => absurd h (by show ¬ wo.heap.size + 1 < wo.heap.size; omega)) (.string (S bs))
            have hP := hPk.setCell 1 (.string (S bs))
            simp only [List.set] at hP
            have hbl : bs.length ≤ 131072 := by omega
            clear hB hB4 hP4 k4 hPk hck
            go_wp2
            change Code.wp _ _ _ _ (wr.setCell ⟨wo.heap.size + 1, 1, none⟩ (.string (S bs)))
            clear hbk z0 z1 z2 f0 f1 f2
            generalize wr.setCell ⟨wo.heap.size + 1, 1, none⟩ (.string (S bs)) = W at *
            have hlW := hSW.size
            go_loopw [8, 9] (fun tw k wk => ∃ (i : Nat) (tb : Bool), i ≤ l.length ∧ tw = .bool tb ∧ k = .int .i64 i ∧ Hid (tb = false → ∀ q p, q < i → l[q]? = some p → p.key ≠ key) ∧ Same W wk) (fun _ k _ => l.length - (intOf k).toNat)
            case atStart => exact ⟨0, false, Nat.zero_le _, rfl, rfl, Lib.hid (fun _ q p h => by omega), .refl _ _⟩
            case round =>
              obtain ⟨i, tb, hi, rfl, rfl, Hne, hck⟩ := hrel
              have hPk := hP.same hck
              obtain ⟨z0, z1, z2, f0, f1, f2, _⟩ := hPk.st3
              have hrowk := own_chg hrow (hSW.trans hck) (fun _ _ h => h)
              by_cases hil : i < l.length
              · have hpc : 0 < (putsCells l).length := by
                  have := (List.getElem?_eq_some_iff.1 (putsCells_at l i hil).1).1
                  omega
                obtain ⟨g3, hg3⟩ : ∃ g3, A3 = some ⟨g3, 0, none⟩ := by
                  rcases hrow.2 with ⟨he, h0⟩ | ⟨g, cap, cur, he, _⟩
                  · omega
                  · cases he; exact ⟨g, rfl⟩
                subst hg3
                have c0 := own_rd hrowk _ _ (putsCells_at l i hil).1
                rw [Nat.zero_add] at c0
                have hse := strEq l[i].key key
                by_cases he : l[i].key = key
                · rw [decide_eq_true he] at hse
                  generalize S l[i].key = s3 at *
                  generalize S key = s4 at *
                  cases tb with
                  | false =>
                    go_wp2
                    go_big_quiet (fail)
                    go_wp2
                    exact ⟨⟨i + 1, true, by omega, rfl, rfl, Lib.hid (fun h => by cases h), hck.drewN _⟩, by simp only [intOf]; omega⟩
                  | true =>
                    go_wp2
                    go_big_quiet (fail)
                    go_wp2
                    exact ⟨⟨i + 1, true, by omega, rfl, rfl, Lib.hid (fun h => by cases h), hck.drewN _⟩, by simp only [intOf]; omega⟩
                · rw [decide_eq_false he] at hse
                  have hne2 : tb = false → ∀ q p, q < i + 1 → l[q]? = some p → p.key ≠ key := fun ht q p hq hp => by
                    by_cases e : q = i
                    · subst e
                      obtain ⟨h, rfl⟩ := List.getElem?_eq_some_iff.1 hp
                      exact he
                    · exact Hne.out ht q p (by omega) hp
                  have Hne2 := Lib.hid hne2
                  clear he hne2
                  generalize S l[i].key = s3 at *
                  generalize S key = s4 at *
                  cases tb with
                  | false =>
                    go_wp2
                    go_big_quiet (fail)
                    go_wp2
                    exact ⟨⟨i + 1, false, by omega, rfl, rfl, Lib.hid (fun _ => Hne2.out trivial), hck.drewN _⟩, by simp only [intOf]; omega⟩
                  | true =>
                    go_wp2
                    go_big_quiet (fail)
                    go_wp2
                    exact ⟨⟨i + 1, true, by omega, rfl, rfl, Lib.hid (fun h => by cases h), hck.drewN _⟩, by simp only [intOf]; omega⟩
              · obtain rfl : i = l.length := by omega
                have hcw := (hch.trans hSW).trans hck
                cases tb with
                | true =>
                  go_wp2
                  go_roundw
                  · exact ⟨l, n + 3, A3, c3, by omega, rfl, rfl, hrowk, Hmay, by omega, Hsm, hcw⟩
                  · simp only [intOf]; omega
                | false =>
                  go_wp2_with (at_builtin; refine app_own rfl (.tmp 84) (.tmp 86) 36 43 _ 3 40 rfl Tryz.underlying36 Tryz.info43 rfl (by decide) (by decide) w.heap.size (.slice A3 l.length c3) l.length (putsCells l) [.string (S key), .string (S bs), .bool false] rfl rfl rfl ?c1 hrowk hcw.size ?c3 ?c4)
                  case c1 => exact ⟨rfl, rfl, rfl⟩
                  case c3 => omega
                  case c4 =>
                    intro g cap' W3 hrow3 k3 hg3
                    have hmay : mayF (l ++ [⟨key, bs, false⟩]) = true := by
                      rw [mayF_snoc, Hmay.out, Bool.true_and]
                      have hk : (l.map (·.key)).contains key = false := by
                        have := (take_keys l l.length key).2 (Hne.out trivial)
                        rwa [List.take_length] at this
                      rw [hk]
                      simp only [Bool.and_true, Bool.not_false, decide_eq_true_eq, not_or]
                      omega
                    have hsm : ∀ p ∈ l ++ [⟨key, bs, false⟩], (p.key.length ≤ 300 ∧ p.blob.length ≤ 131072) ∧ p.key ∈ keys5 := by
                      intro p hp
                      rcases List.mem_append.1 hp with hp | hp
                      · exact Hsm.out p hp
                      · simp only [List.mem_singleton] at hp; subst hp; exact ⟨by dsimp only; omega, Hk5.out⟩
                    have e6 : (l ++ [(⟨key, bs, false⟩ : PutM)]).length = l.length + 1 := by simp
                    have e5 : putsCells l ++ [.string (S key), .string (S bs), .bool false] = putsCells (l ++ [⟨key, bs, false⟩]) := by simp [putsCells, putCells1]
                    rw [e5] at hrow3
                    have hch3 : Same w W3 := hcw.trans' k3 (fun _ _ h => h) (fun j hj e => absurd hj (Nat.not_lt.2 (own_base hrowk e)))
                    have Hmay2 := Lib.hid hmay
                    have Hsm2 := Lib.hid hsm
                    have hrow4 : W3.ownsRow w.heap.size 43 3 (.slice (some ⟨g, 0, none⟩) (l ++ [(⟨key, bs, false⟩ : PutM)]).length cap') (l ++ [(⟨key, bs, false⟩ : PutM)]).length (putsCells (l ++ [⟨key, bs, false⟩])) := by rw [e6]; exact hrow3
                    clear hmay hsm e5 hrow3
                    go_wp2
                    go_roundw
                    · exact ⟨l ++ [⟨key, bs, false⟩], n + 3, some ⟨g, 0, none⟩, cap', by omega, rfl, by rw [e6], hrow4, Hmay2, by omega, Hsm2, hch3⟩
                    · simp only [intOf]; omega

    · have hfrom : RowFrom (fun b => w.heap.size ≤ b ∧ b < wr.heap.size) (.slice A3 l.length c3) := by
        obtain ⟨_, _, he, h9⟩ := own_from hrow
        cases he
        exact ⟨_, _, _, rfl, h9⟩
      have hend : PutsAt wr (.slice A3 l.length c3) l := by
        refine ⟨A3, c3, rfl, ?_⟩
        rcases hrow.2 with ⟨he, h0⟩ | ⟨g, cap, cur, he, _⟩
        · exact .inl (by rw [List.eq_nil_of_length_eq_zero h0]; rfl)
        · cases he; exact .inr ⟨g, 0, rfl, own_rd hrow⟩
      by_cases hn2 : n + 2 < ns.length
      · have hl4' : ¬ ((l.length : Nat) : Int) < 4 := by omega
        go_wp2
        go_ret
        exact ⟨_, rfl, l, hend, hfrom, hl4, Hmay.out, Hsm.out, hch⟩
      · have hn3 : ¬ ((n : Int) + 2 < (ns.length : Int)) := by omega
        go_wp2
        go_ret
        exact ⟨_, rfl, l, hend, hfrom, hl4, Hmay.out, Hsm.out, hch⟩
end Go.Proofs.Obj

/- L10 -/
namespace Go.Proofs.Obj
open Go Go.RowKit Go.Shelf

set_option maxRecDepth 100000 in
/-- law17.Disk. -/
theorem disk_spec {w : World} (n : Nat) (hn : n < 256) :
    Calls Tryz.prog 11 #[.int .u8 n] w fun e w' => ∃ L : DL, e = .returned (.pointer (some ⟨L.d, 0, none⟩)) ∧ DiskAt w' L ⟨List.replicate (32 + n * 2) zero64, [], false, -1⟩ ∧ (∀ k, L.fp k → w.heap.size ≤ k) ∧ Same w w' := by
  have h2 := fun W => (new_spec (w := W) ((32 + n * 2 : Nat) : Int)).mono (R' := fun e w' => ∃ L : DL, e = .returned (.tuple #[.pointer (some ⟨L.d, 0, none⟩), .int .i64 0]) ∧ Same W w' ∧ (∀ k, L.fp k → W.heap.size ≤ k) ∧ DiskAt w' L ⟨List.replicate (32 + n * 2) zero64, [], false, -1⟩) (fun e w' h => by
    unfold NewPost at h
    rw [if_pos (by omega), Int.toNat_natCast] at h
    exact h)
  have e1 : ((32 + n * 2 : Nat) : Int) = 32 + (n : Int) * 2 := by omega
  rw [e1] at h2
  go_enter Tryz.func11, Tryz.ntmps11
  go_wp2_with (first
    | (go_at_call 18; refine (h2 _).mono ?_; rintro e w1 ⟨L, rfl, k1, hf, hD⟩)
    | (go_at_call 14; refine (err_spec _ _).mono ?_; rintro e w2 ⟨rfl, rfl⟩))
  go_ret
  exact ⟨L, rfl, hD, hf, k1⟩
end Go.Proofs.Obj

/- L11 -/
namespace Go.Proofs.Obj
open Go Go.RowKit Go.Shelf

theorem getF_at {m : MpL} (hr : RisingK m) {j : Nat} (hj : j < m.length) : getF m m[j].1 = (m[j].2, 0) := by
  unfold getF
  have := gGet_of (k := m[j].1) (v := m[j].2) hr.nodup (List.getElem_mem hj)
  rw [this]

set_option maxRecDepth 100000 in
set_option maxHeartbeats 4000000 in
/-- law17.Seen of a live store. -/
theorem seen_spec {w : World} {L : DL} {s : Nat} {D : Dk} {turn : Nat} {idx : List Nat} {tab : Tab} {m : MpL} (h : LiveM w L s D turn idx tab m) :
    Calls Tryz.prog 36 #[.pointer (some ⟨s, 0, none⟩)] w fun e w' => ∃ v, e = .returned (.tuple #[v, .bool true]) ∧ MapV w' v m ∧ Same w w' := by
  obtain ⟨hml, hms⟩ := h.dg.msmall
  have hri := h.dg.rising
  have hgen : ∃ w0 : World, w.alloc (.cells #[.slice none 0 0, .slice none 0 0] 32) = w0 ∧ Blk w0 w.heap.size 32 [.slice none 0 0, .slice none 0 0] ∧ Same w w0 ∧ w0.heap.size = w.heap.size + 1 := ⟨_, rfl, Blk.new w 32 [.slice none 0 0, .slice none 0 0], (Chg.refl _ w).alloc _, by simp⟩
  obtain ⟨w0, hw0, hb2, k0, hs0⟩ := hgen
  have hb4 := Blk.new w0 32 [.slice none 0 0, .slice none 0 0]
  rw [hs0] at hb4
  have k1 : Same w0 (w0.alloc (.cells #[.slice none 0 0, .slice none 0 0] 32)) := (Chg.refl _ w0).alloc _
  have hk := fun W (k : Same w W) => keys_live (h.same k)
  go_enter Tryz.func36, Tryz.ntmps36
  go_wp2_with (go_at_call 23; refine (hk _ (k0.trans k1)).mono ?_; rintro e w1 ⟨v1, rfl, hrow, k2⟩; obtain ⟨A3, c3, rfl⟩ := own_form hrow; have hb5 := Blk.same hb4 k2; obtain ⟨z0, z1, z2, z3, z4, z5⟩ := hb5.st2)
  have hll : (m.map (·.1)).length = m.length := List.length_map _
  have hk3 := Chg.set1 w1 (w.heap.size + 1) 0 (.slice A3 m.length c3)
  have hst : WOut w0 (w.heap.size + 1) (m.map (·.1)) [] (.slice A3 m.length c3) (.slice none 0 0) (w1.setCell ⟨w.heap.size + 1, 0, none⟩ (.slice A3 m.length c3)) := by
    refine ⟨(k1.trans k2).trans' (U := fun _ => False) hk3 (fun _ _ e => e) (fun j hj e => by omega), hb5.setCell 0 _, ?_, own_nil _ _ _ _, (by intro x hx e; cases e), by omega⟩
    rw [hll]
    exact own_low (own_chg hrow hk3 (fun x hx e => own_ne hrow hb5 (by decide) (e ▸ hx))) (by simp)
  have hkS : Same w (w1.setCell ⟨w.heap.size + 1, 0, none⟩ (.slice A3 m.length c3)) := k0.trans hst.c
  clear hrow hk3 z0 z1 z2 z3 z4 z5 hb5 k2 k1 hk
  generalize w1.setCell ⟨w.heap.size + 1, 0, none⟩ (.slice A3 m.length c3) = W at *
  go_loopw [5] (fun i wr => ∃ (j : Nat) (A4 : Option Addr) (c4 : Nat), j ≤ m.length ∧ i = .int .i64 j ∧ WOut w0 (w.heap.size + 1) (m.map (·.1)) ((m.map (·.2)).take j) (.slice A3 m.length c3) (.slice A4 j c4) wr) (fun i _ => m.length - (intOf i).toNat)
  case atStart => exact ⟨0, none, 0, Nat.zero_le _, rfl, by simpa using hst⟩
  case round =>
    obtain ⟨j, A4, c4, hj, rfl, hO⟩ := hrel
    have hkw := k0.trans hO.c
    obtain ⟨y0, y1, y2, y3, y4, y5⟩ := hO.b.st2
    by_cases hjt : j < m.length
    · have hkk := hO.k
      rw [hll] at hkk
      obtain ⟨g3, hg3⟩ : ∃ g3, A3 = some ⟨g3, 0, none⟩ := by
        rcases hkk.2 with ⟨he, h0⟩ | ⟨g, cap, cur, he, _⟩
        · omega
        · cases he; exact ⟨g, rfl⟩
      subst hg3
      have c0 := own_rd hkk j (.string (S m[j].1)) (by simp [keyCells, hjt])
      rw [Nat.zero_add] at c0
      have hms2 := hms _ (List.getElem_mem hjt)
      have hget := fun W (k : Same w W) => get_live (h.same k) m[j].1 (by omega)
      rw [getF_at hri hjt] at hget
      have htk := List.take_append_getElem hjt
      have hlv : ((m.map (·.2)).take j).length = j := by rw [List.length_take, List.length_map]; omega
      have Htk := Lib.hid htk
      have Hlv := Lib.hid hlv
      clear htk hlv hkk
      generalize m[j] = x at *
      dsimp only at hget
      go_wp2_with (first
        | (go_at_call 22; refine (hget _ hkw).mono ?_; rintro e w2 ⟨rfl, k2⟩; have hO2 := hO.same k2; obtain ⟨y0, y1, y2, y3, y4, y5⟩ := hO2.b.st2; have y6 := hO2.b.cellA 1; simp only [List.getElem?_cons_zero, List.getElem?_cons_succ] at y6)
        | (go_at_call 14; refine (err_spec _ _).mono ?_; rintro e w3 ⟨rfl, rfl⟩)
        | (at_builtin; refine app_own rfl (.tmp 33) (.tmp 35) 30 9 _ 1 16 rfl Tryz.underlying30 Tryz.info9 rfl (by decide) (by decide) w0.heap.size (.slice A4 j c4) j (keyCells ((m.map (·.2)).take j)) [.string (S x.2)] rfl rfl rfl ?c1 (hO2.vn Hlv.out) hO2.c.size ?c3 ?c4))
      case c1 => intro u hu; simp at hu; subst hu; rfl
      case c3 => omega
      case c4 =>
        intro g1 cp1 W1 hrow1 k1 hg1
        try rw [← hs0] at hrow1
        obtain ⟨z0, f0, kS1, hO3, kS2⟩ := hO2.val Hlv.out hrow1 k1 hg1
        have e1 : (m.map (·.2)).take j ++ [x.2] = (m.map (·.2)).take (j + 1) := by rw [← List.map_take, ← List.map_take, ← Htk.out, List.map_append]; rfl
        rw [e1] at hO3
        go_wp2
        go_roundw
        · exact ⟨j + 1, _, _, by omega, by simp, hO3⟩
        · simp only [intOf]; omega
    · obtain rfl : j = m.length := by omega
      rw [List.take_of_length_le (by rw [List.length_map]; exact Nat.le_refl _)] at hO
      have hb2r := hb2.same hO.c
      obtain ⟨v0, v1, v2, v3⟩ := hb2r.st2
      obtain ⟨f1, f2, _, f3⟩ := hO.fin k0 (Nat.le_refl _) hb2r
      go_wp2
      refine bodyPost_ret_by (results_row_tmp rfl _ _ w.heap.size 32 [_, _] _ rfl f1 Tryz.underlying32 rfl (by kernel_rfl)) rfl ?_
      exact ⟨_, rfl, f2, f3⟩
end Go.Proofs.Obj

/- L12 -/
namespace Go.Proofs.Obj
open Go Go.RowKit Go.Shelf

set_option maxRecDepth 100000 in
set_option maxHeartbeats 4000000 in
/-- law17.is of a live store. -/
theorem is_spec {w : World} {L : DL} {s : Nat} {D : Dk} {turn : Nat} {idx : List Nat} {tab : Tab} {m m2 : MpL} {v : Value} (h : LiveM w L s D turn idx tab m) (hm : MapV w v m2) (hl : m2.length ≤ 1000000) :
    Calls Tryz.prog 17 #[.pointer (some ⟨s, 0, none⟩), v] w fun e w' => e = .returned (.bool (decide (m = m2))) ∧ Same w w' := by
  obtain ⟨A1, c1, A2, c2, rfl⟩ := hm.form
  obtain ⟨hml, _⟩ := h.dg.msmall
  have hb2 := Blk.new w 32 [.slice A1 m2.length c1, .slice A2 m2.length c2]
  have k0 : Same w (w.alloc (.cells #[.slice A1 m2.length c1, .slice A2 m2.length c2] 32)) := (Chg.refl _ w).alloc _
  have hsee := fun W (k : Same w W) => seen_spec (h.same k)
  go_enter Tryz.func17, Tryz.ntmps17
  go_wp2_with (first
    | (go_at_call 36; refine (hsee _ k0).mono ?_; rintro e w1 ⟨x, rfl, hx, k1⟩; obtain ⟨B1, d1, B2, d2, rfl⟩ := hx.form; have hb3 := Blk.same hb2 k1; have hb4 := hb3.alloc (.cells #[.slice B1 m.length d1, .slice B2 m.length d2] 32); have hb5 := Blk.new w1 32 [.slice B1 m.length d1, .slice B2 m.length d2]; obtain ⟨y0, y1, _⟩ := hb4.st2; obtain ⟨z0, z1, _⟩ := hb5.st2; have k2 : Same w1 (w1.alloc (.cells #[.slice B1 m.length d1, .slice B2 m.length d2] 32)) := (Chg.refl _ w1).alloc _)
    | (go_at_call 37; refine (sameMap_spec (hx.same k2) (hm.same ((k0.trans k1).trans k2)) (by omega) (by omega)).mono ?_; rintro e w3 ⟨rfl, k3⟩))
  go_ret
  exact ⟨rfl, ((k0.trans k1).trans k2).trans k3⟩
end Go.Proofs.Obj
