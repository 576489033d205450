/- What is proved here: contract of a row of the index. No condition but what each theorem says. -/
import Derived.Test.YtiiinmleiigckaaGreatDoorGT
import Derived.Shelf.RegionOpen
set_option linter.unusedVariables false
set_option linter.unusedSimpArgs false

/- S21 -/
namespace Go.Proofs.Obj
open Go Go.RowKit Go.Shelf
attribute [local go_sem] Oper.semAt_some

theorem TabAt.split {w : World} : ∀ {pre : KV} {x : List UInt8 × Value} {suf : KV} {tab : Tab}, TabAt w (pre ++ x :: suf) tab → ∃ e, tab[pre.length]? = some (x.1, e) ∧ EntAt w x.2 e
  | [], x, suf, y :: t, h => ⟨y.2, by simp [h.1], h.2.1⟩
  | [], _, _, [], h => h.elim
  | a :: pre, x, suf, y :: t, h => by
    obtain ⟨e, h1, h2⟩ := TabAt.split (pre := pre) h.2.2
    exact ⟨e, by simpa using h1, h2⟩
  | _ :: _, _, _, [], h => h.elim
theorem rowBytes_snoc {tab : Tab} {k : Nat} {x : List UInt8 × Ent} (h : tab[k]? = some x) : rowBytes (tab.take (k + 1)) = rowBytes (tab.take k) ++ entBytes x := by
  unfold rowBytes
  rw [List.take_add_one, h]
  simp
theorem rowBytes_le {tab : Tab} (k : Nat) : (rowBytes (tab.take k)).length ≤ (rowBytes tab).length := by
  conv => rhs; rw [← List.take_append_drop k tab]
  unfold rowBytes
  rw [List.flatMap_append, List.length_append]
  omega
theorem entBytes_len {tab : Tab} {k : Nat} {x : List UInt8 × Ent} (h : tab[k]? = some x) : (rowBytes (tab.take k)).length + (entBytes x).length ≤ (rowBytes tab).length := by
  have := rowBytes_le (tab := tab) (k + 1)
  rw [rowBytes_snoc h, List.length_append] at this
  exact this
theorem secs_len (l : List Nat) : (l.flatMap (littleL · 2)).length = 2 * l.length := by
  induction l with
  | nil => rfl
  | cons a l ih => rw [List.flatMap_cons, List.length_append, ih, littleL_length, List.length_cons]; omega

/-- A plan's row: the table's bytes, and the index' sectors. -/
def RowPost (w : World) (p wm lm : Nat) (F : List Nat) (ws : KV) (R : List UInt8) (e : Ending) (w' : World) : Prop :=
  if manyOf R.length 58 ≤ F.length then
    ∃ iv' fv', e = .returned (.tuple #[.int .i64 ((F.take (manyOf R.length 58)).headD 0 : Nat), .int .i64 R.length, .bool true]) ∧ PB w' p fv' wm lm iv' ∧ Secs w' iv' (F.take (manyOf R.length 58)) ∧
      MapAt 149 w' wm (rowChunks ws (F.take (manyOf R.length 58)) R) ∧ Chg (fun k => k = p ∨ k = wm) w w'
  else e = .returned (.tuple #[.int .i64 0, .int .i64 0, .bool false]) ∧ Chg (fun k => k = p ∨ k = wm) w w' ∧ ∃ iv' fv', PB w' p fv' wm lm iv'

set_option maxRecDepth 100000 in
set_option maxHeartbeats 4000000 in
theorem prow_spec {w : World} {p wm lm : Nat} {fv iv : Value} {F : List Nat} {ws kv : KV} {tab : Tab} (hp : PB w p fv wm lm iv) (hF : Cut w fv F) (hm : MapAt 149 w wm ws) (hws : ws.length + F.length ≤ 900000) (hFa : ∀ a ∈ F, a < 65536)
    (hl : MapAt 9 w lm kv) (ht : TabAt w kv tab) (hok : ∀ x ∈ tab, EntOK x) (hlen : (rowBytes tab).length ≤ 600000) (hFl : F.length ≤ 65536) :
    Calls Tryz.prog 71 #[.pointer (some ⟨p, 0, none⟩)] w (RowPost w p wm lm F ws (rowBytes tab)) := by
  have s2 := fun o => hp.cellA 2 o
  simp only [List.getElem?_cons_zero, List.getElem?_cons_succ] at s2
  have hkeys := ht.keys
  have hkvl : kv.length ≤ 100000 := by
    rw [ht.length]
    have h : ∀ t : Tab, (∀ x ∈ t, EntOK x) → t.length * 7 ≤ (rowBytes t).length := by
      intro t
      induction t with
      | nil => intro _; exact Nat.le_refl _
      | cons x t ih =>
        intro h
        have h1 := ih (fun y hy => h y (by simp [hy]))
        have h2 := (h x (by simp)).1
        unfold rowBytes at *
        rw [List.flatMap_cons, List.length_append, List.length_cons]
        have : (entBytes x).length = 2 + x.1.length + 4 + 2 * x.2.secs.length := by unfold entBytes; rw [List.length_append, List.length_append, List.length_append, littleL_length, littleL_length, secs_len]
        omega
    have := h tab hok
    omega
  have hkl : ∀ x ∈ kv, x.1.length ≤ 65536 := by
    intro x hx
    have h1 : x.1 ∈ tab.map (·.1) := hkeys ▸ List.mem_map.2 ⟨x, hx, rfl⟩
    obtain ⟨y, hy, hyx⟩ := List.mem_map.1 h1
    have := (hok y hy).2.1
    rw [hyx] at this
    omega
  refine (callsIn_wide (n := 0)).1 ?_
  refine callsIn_of_wp_marks Tryz.func71 rfl trivial ?_ rfl
  simp only [Tryz.ntmps71, List.size_toArray, List.length_cons, List.length_nil, Nat.reduceAdd, Nat.reduceSub, Array.replicate_succ, Array.replicate_zero, List.push_toArray, List.append_toArray, List.nil_append, List.cons_append, Array.size_append]
  gi_wp2_with (refine ⟨trivial, rfl, ?_⟩; gi_at_call 51; refine (callsIn_wide.2 (risingA_call (some lm) _)).mono ?_; rintro e w' ⟨rfl, rfl⟩)
  have hW : Same w ((w.alloc (Obj.cells #[Value.pointer none, .slice none 0 0] 104)).alloc (.cells #[.map (some lm)] 71)) := ((Chg.refl _ w).alloc _).alloc _
  have hbd : BldV ((w.alloc (Obj.cells #[Value.pointer none, .slice none 0 0] 104)).alloc (.cells #[.map (some lm)] 71)) w.heap.size (.slice none 0 0) [] :=
    (BldV.new w).chg ((Chg.refl (fun _ => False) _).alloc _) (fun h => h) (fun _ _ h => h)
  have hbq : Blk ((w.alloc (Obj.cells #[Value.pointer none, .slice none 0 0] 104)).alloc (.cells #[.map (some lm)] 71)) (w.heap.size + 1) 71 [.map (some lm)] := by
    have := Blk.new (w.alloc (Obj.cells #[Value.pointer none, .slice none 0 0] 104)) 71 [.map (some lm)]
    rwa [World.size_alloc] at this
  have hmW := hl.same hW
  have htW : TabAt _ kv tab := TabAt.chg hW (fun _ _ _ h => h) ht
  have hsz : ((w.alloc (Obj.cells #[Value.pointer none, .slice none 0 0] 104)).alloc (.cells #[.map (some lm)] 71)).heap.size = w.heap.size + 2 := by simp
  have hmlt := hl.lt
  have hwmlt := hm.lt
  have hplt := hp.lt
  generalize (w.alloc (Obj.cells #[Value.pointer none, .slice none 0 0] 104)).alloc (.cells #[.map (some lm)] 71) = W0 at *
  refine range_rule (gf := 76) (lb := #[.pointer (some ⟨w.heap.size + 1, 0, none⟩)]) rfl (enters_of Tryz.func76 (by kernel_rfl) rfl) (risingA_iter hbq hmW hkvl hkl)
    (fun k h => by rcases h with rfl | rfl <;> omega) (fun _ => rfl) (fun k => k = w.heap.size)
    (fun k h => ⟨by omega, fun h' => by rcases h' with h' | h' <;> omega⟩)
    (fun pre M V => M w.heap.size ∧ ∃ v, BldV V w.heap.size v (rowBytes (tab.take pre.length)) ∧ ∀ k, v.ownBlock = some k → M k)
    (fun c pre M V => False)
    (fun pre M X Y h hc => by
      obtain ⟨h1, v, h2, h4⟩ := h
      exact ⟨h1, v, h2.chg hc (fun h => h.2 h1) (fun g hg h => h.2 (h4 g hg)), h4⟩)
    (fun c pre M X Y h hc => h)
    ⟨rfl, _, hbd, by simp [Value.ownBlock]⟩ ?round ?done ?stop
  case round =>
    rintro l pre x suf M V hx hlw hlV hMl hMV hgr hch ⟨hM0, v, hb, hM⟩ K hK
    have htV : TabAt W0 (pre ++ x :: suf) tab := by rw [← hx]; exact htW
    obtain ⟨e, hte, _, hxv, A, cap, rfl, hsec⟩ := htV.split
    obtain ⟨xk, xv⟩ := x
    dsimp only at hxv hte
    subst hxv
    dsimp only [encKV]
    obtain ⟨ho1, ho2, ho3, ho4, ho5⟩ := hok _ (List.mem_of_getElem? hte)
    dsimp only at ho1 ho2 ho3 ho4 ho5
    have hsl := secs_len e.secs
    have hen := entBytes_len hte
    have hsn := rowBytes_snoc hte
    have hen2 : (entBytes (xk, e)).length = 2 + xk.length + 4 + 2 * e.secs.length := by unfold entBytes; rw [List.length_append, List.length_append, List.length_append, littleL_length, littleL_length, secs_len]
    have hplen : (pre ++ [(xk, Value.agg #[.int .i64 e.size, .slice A e.secs.length cap])]).length = pre.length + 1 := by simp
    have hsb : e.secs.length ≤ 300000 := by omega
    have Hplen := Lib.hid hplen
    have Hsn := Lib.hid hsn
    have Hen2 := Lib.hid hen2
    have Hhx := Lib.hid hx
    clear hplen hsn hen2 hsl ho4 hx htV hte
    gi_wp2
    refine hK _ _ ((Chg.refl _ V).alloc _) ?_
    rintro X hcX ⟨_, v2, hb2, hM2⟩
    have hqX : Blk X V.heap.size 99 [.int .i64 e.size, .slice A e.secs.length cap] := (Blk.new V 99 [.int .i64 e.size, .slice A e.secs.length cap]).chg hcX (by omega)
    have hXsz := hcX.size
    rw [World.size_alloc] at hXsz
    have kWX : Chg (fun k => k = w.heap.size) W0 X := ((hch.alloc _).trans' hcX (U := fun k => k = w.heap.size) (fun _ _ h => h) (fun j hj e => by omega))
    have hVsz := hch.size
    have hsk := S_size xk
    obtain ⟨q0, q1, _⟩ := hqX.st2
    have hliA : ∀ W, Calls Tryz.prog 103 #[.int .i64 xk.length, .int .i64 2] W fun e w' => e = .returned (.string (S (littleL xk.length 2))) ∧ Same W w' := fun W => little_spec (w := W) xk.length 2 (by omega) (by omega) (by omega)
    have hliB : ∀ W, Calls Tryz.prog 103 #[.int .i64 e.size, .int .i64 4] W fun x w' => x = .returned (.string (S (littleL e.size 4))) ∧ Same W w' := fun W => little_spec (w := W) e.size 4 (by omega) (by omega) (by omega)
    have hQb : V.heap.size ≠ w.heap.size := by omega
    have hQv : v2.ownBlock ≠ some V.heap.size := fun h => by
      have := hMV _ (hM2 _ h)
      omega
    have e1 := S_append (littleL xk.length 2) xk
    have e2 := S_append (littleL xk.length 2 ++ xk) (littleL e.size 4)
    have z1 : (S (littleL xk.length 2)).size = 2 := by rw [S_size, littleL_length]
    have z2 : (S (littleL e.size 4)).size = 4 := by rw [S_size, littleL_length]
    have z3 : (S (littleL xk.length 2 ++ xk)).size = 2 + xk.length := by rw [S_size, List.length_append, littleL_length]
    have g1 : ¬ 9223372036854775807 < 2 + xk.length := by omega
    have g2 : ¬ 9223372036854775807 < 2 + xk.length + 4 := by omega
    have hmix : Tryz.prog.follows .mixedOrders = true := by kernel_rfl
    have hS : Same X X.drew := (Chg.refl _ X).drew
    gi_wp2
    refine region_round (fun W => W.cell? ⟨V.heap.size, 0, none⟩ = some (.int .i64 e.size)) hmix (by kernel_rfl) (by rintro ⟨_, _, h⟩; exact h) (by simpa using q0) (fun hHeld => ?_)
    refine wpAnyH_take (i := 0) (v := ?v1) rfl (by kernel_rfl) (by kernel_rfl) (by kernel_rfl) (fun _ _ _ h => h) (Or.inl ⟨by rfl, ?h1⟩) (by assumption) ?r1
    case h1 => intro w hSw; have hd0 := hSw; first | (go_simp; done) | (go_simp; with_reducible rfl)
    try simp only [Act.put, List.setIfInBounds_toArray, List.set_cons_zero, List.set_cons_succ]
    refine wpAnyH_take (i := 1) (v := ?v2) rfl (by kernel_rfl) (by kernel_rfl) (by kernel_rfl) (fun _ _ _ h => h) (Or.inl ⟨by rfl, ?h2⟩) (by assumption) ?r2
    case h2 => intro w hSw; have hd0 := hSw; first | (go_simp; done) | (go_simp; with_reducible rfl)
    try simp only [Act.put, List.setIfInBounds_toArray, List.set_cons_zero, List.set_cons_succ]
    refine wpAnyH_take (i := 3) (v := ?v3) rfl (by kernel_rfl) (by kernel_rfl) (by kernel_rfl) (fun _ _ _ h => h) (Or.inl ⟨by rfl, ?h3⟩) (by assumption) ?r3
    case h3 => intro w hSw; have hd0 := hSw; first | (go_simp; done) | (go_simp; with_reducible rfl)
    try simp only [Act.put, List.setIfInBounds_toArray, List.set_cons_zero, List.set_cons_succ]
    refine wpAnyH_take (i := 5) (v := ?v4) rfl (by kernel_rfl) (by kernel_rfl) (by kernel_rfl) (fun _ _ _ h => h) (Or.inl ⟨by rfl, ?h4⟩) (by assumption) ?r4
    case h4 => intro w hSw; have hd0 := hSw; first | (go_simp; done) | (go_simp; with_reducible rfl)
    try simp only [Act.put, List.setIfInBounds_toArray, List.set_cons_zero, List.set_cons_succ]
    refine wpAnyH_take (i := 6) (v := ?v5) rfl (by kernel_rfl) (by kernel_rfl) (by kernel_rfl) (fun _ _ _ h => h) (Or.inl ⟨by rfl, ?h5⟩) (by assumption) ?r5
    case h5 => intro w hSw; have hd0 := hSw; first | (go_simp; done) | (go_simp; with_reducible rfl)
    try simp only [Act.put, List.setIfInBounds_toArray, List.set_cons_zero, List.set_cons_succ]
    refine wpAnyH_ready (rs := [2]) (by kernel_rfl) (by simp) ?_
    refine AllReadyH.cons rfl (fun K hK => ?_) AllReadyH.nil
    go_simp
    refine (hliA _).mono ?_; rintro x w1 ⟨rfl, k1⟩
    refine hK.out _ _ (cell_chg k1 hHeld (fun h => h)) (fun hHeld => ?_)
    clear hK K
    try simp only [Act.put, List.setIfInBounds_toArray, List.set_cons_zero, List.set_cons_succ]
    refine wpAnyH_take (i := 4) (v := ?v6) rfl (by kernel_rfl) (by kernel_rfl) (by kernel_rfl) (fun _ _ _ h => h) (Or.inl ⟨by rfl, ?h6⟩) (by assumption) ?r6
    case h6 => intro w hSw; have hd0 := hSw; first | (go_simp; done) | (go_simp; with_reducible rfl)
    try simp only [Act.put, List.setIfInBounds_toArray, List.set_cons_zero, List.set_cons_succ]
    refine wpAnyH_ready (rs := [7]) (by kernel_rfl) (by simp) ?_
    refine AllReadyH.cons rfl (fun K hK => ?_) AllReadyH.nil
    go_simp
    refine (hliB _).mono ?_; rintro x w2 ⟨rfl, k2⟩
    refine hK.out _ _ (cell_chg k2 hHeld (fun h => h)) (fun hHeld => ?_)
    clear hK K
    try simp only [Act.put, List.setIfInBounds_toArray, List.set_cons_zero, List.set_cons_succ]
    refine wpAnyH_take (i := 8) (v := ?v7) rfl (by kernel_rfl) (by kernel_rfl) (by kernel_rfl) (fun _ _ _ h => h) (Or.inl ⟨by rfl, ?h7⟩) (by assumption) ?r7
    case h7 => intro w hSw; have hd0 := hSw; first | (go_simp; done) | (go_simp; with_reducible rfl)
    try simp only [Act.put, List.setIfInBounds_toArray, List.set_cons_zero, List.set_cons_succ]
    refine wpAnyH_ready (rs := [9]) (by kernel_rfl) (by simp) ?_
    refine AllReadyH.cons rfl (fun K hK => ?_) AllReadyH.nil
    go_simp
    refine (bldWriteR (hb2.chg ((hS.trans k1).trans k2) (fun h => h) (fun _ _ h => h)) (littleL xk.length 2 ++ xk ++ littleL e.size 4) (by simp only [List.length_append, littleL_length]; omega)).mono ?_; rintro x w3 ⟨r3, rfl, v3, hb3, k3, hv3⟩
    refine hK.out _ _ (cell_chg k3 hHeld (fun h => h.elim (fun e => hQb e) (fun e => hQv e))) (fun hHeld => ?_)
    clear hK K
    try simp only [Act.put, List.setIfInBounds_toArray, List.set_cons_zero, List.set_cons_succ]
    refine wpAnyH_done (by kernel_rfl) ?_ _
    have kX3 : Chg M X w3 := (((hS.trans k1).trans k2) |> fun k => Chg.after_same k k3).mono (fun k _ h => h.elim (fun e => e ▸ hM0) (fun e => hM2 _ e))
    have hq3 := hqX.chg kX3 (fun h => by have := hMV _ h; omega)
    obtain ⟨_, p1, _⟩ := hq3.st2
    have hv3' : ∀ k, v3.ownBlock = some k → M k ∨ X.heap.size ≤ k := fun k hk => (hv3 k hk).imp (hM2 k) (fun h => by have := ((hS.trans k1).trans k2).size; omega)
    gi_wp2
    gi_loopw [34] (fun t wr => ∃ (j : Nat) (v : Value), j ≤ e.secs.length ∧ t = .int .i64 j ∧ BldV wr w.heap.size v (rowBytes (tab.take pre.length) ++ (littleL xk.length 2 ++ xk ++ littleL e.size 4) ++ (e.secs.take j).flatMap (littleL · 2)) ∧ (∀ k, v.ownBlock = some k → M k ∨ X.heap.size ≤ k) ∧ Chg M X wr) (fun t _ => e.secs.length - (intOf t).toNat)
    case atStart => exact ⟨0, v3, Nat.zero_le _, rfl, by simpa using hb3, hv3', kX3⟩
    case round =>
      obtain ⟨j, v, hj, rfl, hbj, hvj, kj⟩ := hrel
      by_cases hjt : j < e.secs.length
      · rcases hsec with h0 | ⟨b, off, c, rfl, hbb, hr⟩
        · rw [h0] at hjt; simp at hjt
        have kAll : Chg (fun k => k = w.heap.size) W0 wr := kWX.trans' kj (U := fun k => k = w.heap.size) (fun _ _ h => h) (fun i hi h => by
          rcases hgr i h with h | h
          · exact h
          · omega)
        have c0 := hr.chg kAll (hbd.bld.ne hbb (by decide)) j (.int .i64 (e.secs[j] : Nat)) (by simp [natInts, hjt])
        have ha := ho5 _ (List.getElem_mem hjt)
        have htk : (e.secs.take (j + 1)).flatMap (littleL · 2) = (e.secs.take j).flatMap (littleL · 2) ++ littleL e.secs[j] 2 := by
          rw [← List.take_append_getElem hjt, List.flatMap_append]; simp
        have Htk := Lib.hid htk
        have htl : ((e.secs.take j).flatMap (littleL · 2)).length = 2 * j := by rw [secs_len, List.length_take_of_le hj]
        clear htk hliA hliB hqX hr
        generalize e.secs[j] = a at *
        have hliC : ∀ W, CallsIn (Fence.wide.inRound l) 0 Tryz.prog 103 #[.int .i64 a, .int .i64 2] W fun e w' => e = .returned (.string (S (littleL a 2))) ∧ Same W w' := fun W => CallsIn.inRound l ((callsIn_wide (n := 0)).2 (little_spec (w := W) a 2 (by omega) (by omega) (by omega)))
        have hen3 := Hen2.out
        have hwr : ∀ W, Same wr W → CallsIn (Fence.wide.inRound l) 0 Tryz.prog 49 #[.pointer (some ⟨w.heap.size, 0, none⟩), .string (S (littleL a 2))] W (WrPostR W w.heap.size v _ (littleL a 2)) := fun W k => CallsIn.inRound l ((callsIn_wide (n := 0)).2 (bldWriteR (hbj.chg k (fun h => h) (fun _ _ h => h)) (littleL a 2) (by simp only [List.length_append, littleL_length, htl]; omega)))
        clear hen3 htl
        gi_wp2_with (first
          | (refine ⟨trivial, rfl, ?_⟩; gi_at_call 103; refine (hliC _).mono ?_; rintro x w4 ⟨rfl, k4⟩)
          | (refine ⟨trivial, rfl, ?_⟩; gi_at_call 49; refine (hwr _ k4).mono ?_; rintro x w5 ⟨r5, rfl, v5, hb5, k5, hv5⟩))
        refine ⟨⟨j + 1, v5, by omega, rfl, ?_, fun k hk => (hv5 k hk).elim (hvj k) (fun h => .inr (by have := kj.size; have := k4.size; omega)), ?_⟩, ?_⟩
        · rw [Htk.out, ← List.append_assoc]; exact hb5
        · exact (kj.then_same k4).trans' k5 (fun _ _ h => h) (fun i hi h => h.elim (fun e => e ▸ hM0) (fun e => (hvj i e).elim id (fun h => by omega)))
        · simp only [intOf]; omega
      · obtain rfl : j = e.secs.length := by omega
        rw [List.take_of_length_le (Nat.le_refl _)] at hbj
        clear hliA hliB hqX
        gi_wp2
        refine ⟨fun k => M k ∨ v.ownBlock = some k, fun k h => h.elim .inl (fun e => (hvj k e).imp id (fun h' => ⟨h', ?_⟩)), kj, .inl hM0, v, ?_, fun k hk => .inr hk⟩
        · obtain ⟨c, fz, hc⟩ := ownF_type hbj.own e
          exact lt_of_at hc
        · rw [Hplen.out, Hsn.out]
          have e9 : entBytes (xk, e) = littleL xk.length 2 ++ xk ++ littleL e.size 4 ++ e.secs.flatMap (littleL · 2) := rfl
          rw [e9, ← List.append_assoc]
          exact hbj
  case done =>
    rintro DD M V hD1 hK1 hMD hgr hch ⟨hM0, v, hb, hM⟩
    rw [List.take_of_length_le (by rw [ht.length]; exact Nat.le_refl _)] at hb
    have hbB := hb.bld
    have kwV : Same w V := hW.trans' hch (U := fun _ => False) (fun _ _ h => h) (fun j hj e => by omega)
    have hst := bldString_spec hbB
    have hpV : PB V p fv wm lm iv := Blk.same hp kwV
    have hFV := hF.same kwV (fun _ _ _ h => h)
    have hmV := hm.same kwV
    have hDb : DD ≠ w.heap.size := fun e => hMD (e ▸ hM0)
    have hDBS : ¬ BS V w.heap.size DD := by
      rintro ⟨_, h | ⟨c, fz, h⟩⟩
      · exact hDb h
      · have := hK1.symm.trans h; cases this
    have hoff : Off3 V (BS V w.heap.size) := fun b c hb h => BS.not hb (by decide) (hbB.ne hb (by decide)) h
    have hmn := fun W => many_spec (w := W) (rowBytes tab).length 58 (by omega) (by omega) (by omega)
    change ∀ W, Calls Tryz.prog 62 _ W fun e w' => e = .returned (.int .i64 (manyOf (rowBytes tab).length 58 : Nat)) ∧ _ at hmn
    have hm2 : manyOf (rowBytes tab).length 58 * 58 < (rowBytes tab).length + 58 := by unfold manyOf; omega
    have hm3 : (rowBytes tab).length ≤ manyOf (rowBytes tab).length 58 * 58 := by unfold manyOf; omega
    have hRs := S_size (rowBytes tab)
    by_cases hroom : manyOf (rowBytes tab).length 58 ≤ F.length
    · have hpost : ∀ e w', RowPost w p wm lm F ws (rowBytes tab) e w' = ∃ iv' fv', e = .returned (.tuple #[.int .i64 ((F.take (manyOf (rowBytes tab).length 58)).headD 0 : Nat), .int .i64 (rowBytes tab).length, .bool true]) ∧ PB w' p fv' wm lm iv' ∧ Secs w' iv' (F.take (manyOf (rowBytes tab).length 58)) ∧
          MapAt 149 w' wm (rowChunks ws (F.take (manyOf (rowBytes tab).length 58)) (rowBytes tab)) ∧ Chg (fun k => k = p ∨ k = wm) w w' := fun e w' => by rw [RowPost, if_pos hroom]
      have htk := fun W (k : Chg (BS V w.heap.size) V W) => take_yes (Blk.chg hpV k (BS.not_low (by omega)) : PB W p fv wm lm iv) (hFV.same k hoff) (manyOf (rowBytes tab).length 58) hroom (by omega)
      have Hpost := Lib.hid hpost
      clear hpost
      generalize manyOf (rowBytes tab).length 58 = mn at *
      generalize rowBytes tab = R at *
      gi_wp2_with (first
        | (refine ⟨trivial, rfl, ?_⟩; gi_at_call 50; refine (callsIn_wide.2 hst).mono ?_; rintro e V1 ⟨rfl, hbd1, k1⟩; have htk1 := htk V1 k1)
        | (refine ⟨trivial, rfl, ?_⟩; gi_at_call 62; refine (callsIn_wide.2 (hmn _)).mono ?_; rintro e w4 ⟨rfl, rfl⟩)
        | (refine ⟨trivial, rfl, ?_⟩; gi_at_call 101; refine (callsIn_wide.2 htk1).mono ?_; rintro e V2 ⟨ov, fv', rfl, ⟨A, cap, rfl, hsec⟩, hp2, hc2, k2⟩; have c3 := hp2.cell 3; have f3 := hp2.frozen 3; have hp3 := Blk.setCell hp2 3 (.slice A mn cap); have d3 := hp3.cell 3; simp only [List.getElem?_cons_zero, List.getElem?_cons_succ] at c3 d3))
      have hpm : p ≠ wm := fun e => hmV.ne hpV e.symm
      have hlF : (F.take mn).length = mn := List.length_take_of_le hroom
      have kP : Chg (fun k => k = p) V2 (V2.setCell ⟨p, 3, none⟩ (.slice A mn cap)) := Chg.set1 _ _ _ _
      have kwZ : Chg (fun k => k = p) w (V2.setCell ⟨p, 3, none⟩ (.slice A mn cap)) :=
        ((kwV.trans' k1 (U := fun k => k = p) (fun _ _ h => h.elim) (fun j hj h => by have := h.1; omega)).trans k2).trans kP
      have hmZ := hm.chg kwZ (fun e => hpm e.symm)
      have hsecZ : Secs (V2.setCell ⟨p, 3, none⟩ (.slice A mn cap)) (.slice A (F.take mn).length cap) (F.take mn) := Secs.chg ⟨A, cap, rfl, hsec⟩ kP (fun b c hb e => hb.type_ne hp2 (by decide) e)
      have hD1 : V1.heap[DD]? = some (.deferred (some [])) := k1.at_ hK1 hDBS
      have hDp : DD ≠ p := fun e => by subst e; have := hK1.symm.trans hpV.at_; cases this
      have hDwm : DD ≠ wm := fun e => by omega
      have hDZ : (V2.setCell ⟨p, 3, none⟩ (.slice A mn cap)).heap[DD]? = some (.deferred (some [])) := kP.at_ (k2.at_ hD1 hDp) hDp
      have hW0s := hch.size
      clear hst htk htk1 hmn hoff hDBS hbd1
      generalize hZ : V2.setCell ⟨p, 3, none⟩ (.slice A mn cap) = Z at *
      clear hZ
      have hsecZ2 := hsecZ
      obtain ⟨A2, cap2, hAe, hsZ⟩ := hsecZ
      have hcF : (F.take mn).length ≤ 65536 := by omega
      have hIXa : ∀ a ∈ F.take mn, a < 65536 := fun a ha => hFa a (List.mem_of_mem_take ha)
      generalize hIX : F.take mn = IX at *
      have HIX := Lib.hid hIX
      cases hAe
      clear hIX
      subst hlF
      gi_loopw [61] (fun i wr => ∃ (j : Nat) (ws' : KV), j ≤ IX.length ∧ i = .int .i64 j ∧ MapAt 149 wr wm ws' ∧ ws'.length ≤ ws.length + j ∧ rowChunks ws' (IX.drop j) (R.drop (58 * j)) = rowChunks ws IX R ∧ Chg (fun k => k = wm) Z wr) (fun i _ => IX.length - (intOf i).toNat)
      case atStart => exact ⟨0, ws, Nat.zero_le _, rfl, hmZ, by omega, rfl, .refl _ _⟩
      case round =>
        obtain ⟨j, ws', hjl, rfl, hmj, hwl, hck, hcj⟩ := hrel
        by_cases hjt : j < IX.length
        · rcases hsZ with h0 | ⟨b, off, c, rfl, hbb, hr⟩
          · rw [h0] at hjt; simp at hjt
          have hbwm : b ≠ wm := fun e => by subst e; exact hmZ.ne hbb rfl
          have hrj := hr.chg hcj hbwm
          have c0 := hrj j (.int .i64 (IX[j] : Nat)) (by simp [natInts, hjt])
          have hpr : PB wr p fv' wm lm (.slice (some ⟨b, off, none⟩) IX.length cap) := Blk.chg hp3 hcj hpm
          have e3 := hpr.cell 3
          simp only [List.getElem?_cons_zero, List.getElem?_cons_succ] at e3
          have hdr : IX.drop j = IX[j] :: IX.drop (j + 1) := List.drop_eq_getElem_cons hjt
          have hck2 := hck
          rw [hdr, rowChunks, List.drop_drop] at hck2
          have Hck := Lib.hid hck2
          have ha := hIXa _ (List.getElem_mem hjt)
          clear hck hck2 hdr
          have hext : (S R).extract (j * 58) (min R.length ((j + 1) * 58)) = S ((R.drop (58 * j)).take 58) := by
            rw [S_extract]
            congr 1
            rw [List.take_drop, Nat.mul_comm 58 j]
            have e : j * 58 + 58 = (j + 1) * 58 := by omega
            rw [e]
            by_cases hle : R.length ≤ (j + 1) * 58
            · rw [Nat.min_eq_left hle, List.take_of_length_le (Nat.le_refl _), List.take_of_length_le hle]
            · rw [Nat.min_eq_right (by omega)]
          have hjs : j * 58 < R.length := by omega
          have hmin : min (R.length : Int) (((j : Int) + 1) * 58) = ((min R.length ((j + 1) * 58) : Nat) : Int) := by omega
          have hb1 : j * 58 ≤ min R.length ((j + 1) * 58) := by omega
          have hb2 : min R.length ((j + 1) * 58) ≤ R.length := by omega
          generalize min R.length ((j + 1) * 58) = hi at *
          obtain ⟨lo, hlo0⟩ : ∃ lo, lo = j * 58 := ⟨_, rfl⟩
          have hlo : (j : Int) * 58 = (lo : Int) := by omega
          rw [← hlo0] at hext hjs hb1
          have Hlo := Lib.hid hlo0
          clear hlo0
          have hpl : ((R.drop (58 * j)).take 58).length ≤ 58 := by rw [List.length_take]; omega
          have hps := S_size ((R.drop (58 * j)).take 58)
          have e58 : 58 * (j + 1) = 58 * j + 58 := by omega
          have E58 := Lib.hid e58
          clear e58
          generalize (R.drop (58 * j)).take 58 = part at *
          by_cases hj1 : j + 1 < IX.length
          · have c1 := hrj (j + 1) (.int .i64 (IX[j + 1] : Nat)) (by simp [natInts, hj1])
            have c2 := c1
            rw [← Nat.add_assoc] at c2
            have i1 : ((j : Int) + 1) < (IX.length : Int) := by omega
            have hnx6 : IX[j + 1] < 65536 := hIXa _ (List.getElem_mem hj1)
            have hhd : (IX.drop (j + 1)).headD 0 = IX[j + 1] := by rw [List.drop_eq_getElem_cons hj1]; rfl
            rw [hhd] at Hck
            clear hhd hIXa
            have hlC : ∀ W, Calls Tryz.prog 103 #[.int .i64 (IX[j + 1] : Nat), .int .i64 2] W (fun e w' => e = .returned (.string (S (littleL IX[j + 1] 2))) ∧ Same W w') := fun W => little_spec (w := W) IX[j + 1] 2 (by omega) (by omega) (by omega)
            have hse : ∀ W, Calls Tryz.prog 104 #[.string (S (littleL IX[j + 1] 2 ++ part))] W fun e w' => e = .returned (.string (sealedL (littleL IX[j + 1] 2 ++ part))) ∧ Same W w' := fun W => sealed_spec _ (by rw [List.length_append, littleL_length]; omega)
            have hpw : ∀ W (k : Same wr W), Calls Tryz.prog 102 #[.pointer (some ⟨p, 0, none⟩), .int .i64 (IX[j] : Nat), .string (sealedL (littleL IX[j + 1] 2 ++ part))] W fun e w' => e = .returned (.tuple #[]) ∧ MapAt 149 w' wm (kvPut (littleL IX[j] 2) (.string (sealedL (littleL IX[j + 1] 2 ++ part))) ws') ∧ Chg (fun k => k = wm) W w' := fun W k => pwrite_spec (Blk.same hpr k) (hmj.same k) (by omega) _ ha _
            have e1 := S_append (littleL IX[j + 1] 2) part
            have z1 : (S (littleL IX[j + 1] 2)).size = 2 := by rw [S_size, littleL_length]
            have g1 : ¬ 9223372036854775807 < 2 + part.length := by omega
            have hS : Same wr wr.drew := (Chg.refl _ wr).drew
            have hpu := kvPut_length (littleL IX[j] 2) (.string (sealedL (littleL IX[j + 1] 2 ++ part))) ws'
            have Hpu := Lib.hid hpu
            clear hpu
            generalize hsc : sealedL (littleL IX[j + 1] 2 ++ part) = sec at *
            have Hsc := Lib.hid hsc
            clear hsc
            generalize IX[j] = a at *
            generalize IX[j + 1] = nx at *
            gi_wp2
            have wz1 : IntKind.i64.wrap (lo : Int) = (lo : Int) := by rw [IntKind.wrap_i64]; omega
            have wz2 : IntKind.i64.wrap ((j : Int) + 1) = (j : Int) + 1 := by rw [IntKind.wrap_i64]; omega
            have wz3 : IntKind.i64.wrap (((j : Int) + 1) * 58) = ((j : Int) + 1) * 58 := by rw [IntKind.wrap_i64]; omega
            refine wpIn_wide.2 (wp_region_noPanic ?_)
            go_region_with (first
              | (go_at_call 103; refine (hlC _).mono ?_; rintro e w4 ⟨rfl, k4⟩; have hS := hS.trans k4)
              | (go_at_call 104; refine (hse _).mono ?_; rintro e w5 ⟨rfl, k5⟩; have hS := hS.trans k5)
              | (go_at_call 102; refine (hpw _ hS).mono ?_; rintro e w6 ⟨rfl, hm6, k6⟩))
            all_goals
              refine NoPanic.normal ?_
              clear wz1 wz2 wz3
              gi_wp2
              refine ⟨⟨j + 1, kvPut (littleL a 2) (.string sec) ws', by omega, rfl, hm6, by have := Hpu.out; omega, by rw [E58.out, ← Hck.out], (hcj.then_same hS).trans k6⟩, ?_⟩
              simp only [intOf]; omega
          · have i1 : ¬ ((j : Int) + 1) < (IX.length : Int) := by omega
            have hnx6 : 0 < 65536 := by omega
            have hhd : (IX.drop (j + 1)).headD 0 = 0 := by rw [List.drop_of_length_le (by omega)]; rfl
            rw [hhd] at Hck
            clear hhd hIXa
            have hlC : ∀ W, Calls Tryz.prog 103 #[.int .i64 (0 : Nat), .int .i64 2] W (fun e w' => e = .returned (.string (S (littleL 0 2))) ∧ Same W w') := fun W => little_spec (w := W) 0 2 (by omega) (by omega) (by omega)
            have hse : ∀ W, Calls Tryz.prog 104 #[.string (S (littleL 0 2 ++ part))] W fun e w' => e = .returned (.string (sealedL (littleL 0 2 ++ part))) ∧ Same W w' := fun W => sealed_spec _ (by rw [List.length_append, littleL_length]; omega)
            have hpw : ∀ W (k : Same wr W), Calls Tryz.prog 102 #[.pointer (some ⟨p, 0, none⟩), .int .i64 (IX[j] : Nat), .string (sealedL (littleL 0 2 ++ part))] W fun e w' => e = .returned (.tuple #[]) ∧ MapAt 149 w' wm (kvPut (littleL IX[j] 2) (.string (sealedL (littleL 0 2 ++ part))) ws') ∧ Chg (fun k => k = wm) W w' := fun W k => pwrite_spec (Blk.same hpr k) (hmj.same k) (by omega) _ ha _
            have e1 := S_append (littleL 0 2) part
            have z1 : (S (littleL 0 2)).size = 2 := by rw [S_size, littleL_length]
            have g1 : ¬ 9223372036854775807 < 2 + part.length := by omega
            have hS : Same wr wr.drew := (Chg.refl _ wr).drew
            have hpu := kvPut_length (littleL IX[j] 2) (.string (sealedL (littleL 0 2 ++ part))) ws'
            have Hpu := Lib.hid hpu
            clear hpu
            generalize hsc : sealedL (littleL 0 2 ++ part) = sec at *
            have Hsc := Lib.hid hsc
            clear hsc
            generalize IX[j] = a at *

            gi_wp2
            have wz1 : IntKind.i64.wrap (lo : Int) = (lo : Int) := by rw [IntKind.wrap_i64]; omega
            have wz2 : IntKind.i64.wrap ((j : Int) + 1) = (j : Int) + 1 := by rw [IntKind.wrap_i64]; omega
            have wz3 : IntKind.i64.wrap (((j : Int) + 1) * 58) = ((j : Int) + 1) * 58 := by rw [IntKind.wrap_i64]; omega
            refine wpIn_wide.2 (wp_region_noPanic ?_)
            go_region_with (first
              | (go_at_call 103; refine (hlC _).mono ?_; rintro e w4 ⟨rfl, k4⟩; have hS := hS.trans k4)
              | (go_at_call 104; refine (hse _).mono ?_; rintro e w5 ⟨rfl, k5⟩; have hS := hS.trans k5)
              | (go_at_call 102; refine (hpw _ hS).mono ?_; rintro e w6 ⟨rfl, hm6, k6⟩))
            all_goals
              refine NoPanic.normal ?_
              clear wz1 wz2 wz3
              gi_wp2
              refine ⟨⟨j + 1, kvPut (littleL a 2) (.string sec) ws', by omega, rfl, hm6, by have := Hpu.out; omega, by rw [E58.out, ← Hck.out], (hcj.then_same hS).trans k6⟩, ?_⟩
              simp only [intOf]; omega
        · obtain rfl : j = IX.length := by omega
          rw [List.drop_of_length_le (Nat.le_refl _), rowChunks] at hck
          subst hck
          have hpr : PB wr p fv' wm lm (.slice A IX.length cap) := Blk.chg hp3 hcj hpm
          have e3 := hpr.cell 3
          simp only [List.getElem?_cons_zero, List.getElem?_cons_succ] at e3
          have hDr := hcj.at_ hDZ hDwm
          have kFin : Chg (fun k => k = p ∨ k = wm) w wr := kwZ.trans' hcj (U := fun k => k = p ∨ k = wm) (fun _ _ h => .inl h) (fun _ _ h => .inr h)
          have hsR : Secs wr (.slice A IX.length cap) IX := hsecZ2.chg hcj hmZ.off3
          have fin : ∀ W', Chg (fun k => k = DD) wr W' → RowPost w p wm lm F ws R (.returned (.tuple #[.int .i64 (IX.headD 0 : Nat), .int .i64 R.length, .bool true])) W' := fun W' hc => by
            have hp9 : PB W' p fv' wm lm (.slice A IX.length cap) := Blk.chg hpr hc (fun e => hDp e.symm)
            have hs9 : Secs W' (.slice A IX.length cap) IX := hsR.chg hc (fun b c hb e => by subst e; have := hDr.symm.trans hb.at_; cases this)
            have hm9 := hmj.chg hc (fun e => hDwm e.symm)
            have k9 : Chg (fun k => k = p ∨ k = wm) w W' := kFin.trans' hc (fun _ _ h => h) (fun j hj e => by omega)
            have h9 := Hpost.out (.returned (.tuple #[.int .i64 (IX.headD 0 : Nat), .int .i64 R.length, .bool true])) W'
            rw [h9]
            exact ⟨_, fv', rfl, hp9, hs9, hm9, k9⟩
          have Fin := Lib.hid fin
          clear fin
          cases IX with
          | nil =>
            gi_wp2
            exact leave_loop (.inr rfl) hDr (fun W' _ => by simp [results, Tryz.f71, go_sem]) (fun W' hc => Fin.out W' hc)
          | cons a0 r0 =>
            rcases hsZ with h0 | ⟨b, off, c, rfl, hbb, hr⟩
            · cases h0
            have hbwm : b ≠ wm := fun e => by subst e; exact hmZ.ne hbb rfl
            have c0 := (hr.chg hcj hbwm) 0 (.int .i64 (a0 : Nat)) (by simp [natInts])
            rw [Nat.add_zero] at c0
            have hpos : (0 : Int) < (((a0 :: r0).length : Nat) : Int) := by simp only [List.length_cons]; omega
            have hposN : 0 < (a0 :: r0).length := by simp
            generalize hLn : (a0 :: r0).length = Ln at *
            have HLn := Lib.hid hLn
            clear hLn
            gi_wp2
            exact leave_loop (.inr rfl) hDr (fun W' _ => by simp [results, Tryz.f71, go_sem]) (fun W' hc => Fin.out W' hc)
    · have hpost : ∀ e w', RowPost w p wm lm F ws (rowBytes tab) e w' = (e = .returned (.tuple #[.int .i64 0, .int .i64 0, .bool false]) ∧ Chg (fun k => k = p ∨ k = wm) w w' ∧ ∃ iv' fv', PB w' p fv' wm lm iv') := fun e w' => by rw [RowPost, if_neg hroom]
      have htk := fun W (k : Chg (BS V w.heap.size) V W) => take_no (Blk.chg hpV k (BS.not_low (by omega)) : PB W p fv wm lm iv) (hFV.same k hoff) (manyOf (rowBytes tab).length 58) (by omega) (by omega)
      have hpW := fun W (k : Chg (BS V w.heap.size) V W) => (Blk.chg hpV k (BS.not_low (by omega)) : PB W p fv wm lm iv)
      have Hpost := Lib.hid hpost
      clear hpost
      generalize manyOf (rowBytes tab).length 58 = mn at *
      generalize rowBytes tab = R at *
      gi_wp2_with (first
        | (refine ⟨trivial, rfl, ?_⟩; gi_at_call 50; refine (callsIn_wide.2 hst).mono ?_; rintro e V1 ⟨rfl, hbd1, k1⟩; have htk1 := htk V1 k1; have hp1 := hpW V1 k1; have c3 := Blk.cell hp1 3; have f3 := Blk.frozen hp1 3; have hp3 := Blk.setCell hp1 3 (.slice none 0 0); simp only [List.getElem?_cons_zero, List.getElem?_cons_succ] at c3)
        | (refine ⟨trivial, rfl, ?_⟩; gi_at_call 62; refine (callsIn_wide.2 (hmn _)).mono ?_; rintro e w4 ⟨rfl, rfl⟩)
        | (refine ⟨trivial, rfl, ?_⟩; gi_at_call 101; refine (callsIn_wide.2 htk1).mono ?_; rintro e V2 ⟨rfl, rfl⟩))
      have hDp : DD ≠ p := fun e => by subst e; have := hK1.symm.trans hpV.at_; cases this
      have kP : Chg (fun k => k = p) V1 (V1.setCell ⟨p, 3, none⟩ (.slice none 0 0)) := Chg.set1 _ _ _ _
      have hDr := kP.at_ (k1.at_ hK1 hDBS) hDp
      have kFin : Chg (fun k => k = p ∨ k = wm) w (V1.setCell ⟨p, 3, none⟩ (.slice none 0 0)) := (kwV.trans' k1 (U := fun k => k = p ∨ k = wm) (fun _ _ h => h.elim) (fun j hj h => by have := h.1; omega)).trans' kP (fun _ _ h => h) (fun _ _ h => .inl h)
      have hW0s := hch.size
      refine leave_loop (v := .tuple #[.int .i64 0, .int .i64 0, .bool false]) (.inr rfl) hDr (fun W' _ => by simp [results, Tryz.f71, go_sem]) (fun W' hc => ?_)
      rw [Hpost.out]
      exact ⟨rfl, kFin.trans' hc (fun _ _ h => h) (fun j hj e => by omega), _, _, Blk.chg hp3 hc (fun e => hDp e.symm)⟩
  case stop =>
    rintro DD c pre M V hD1 hK1 hMD hgr hch hpre hi
    exact hi.elim
end Go.Proofs.Obj
