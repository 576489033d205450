/- What is proved here: contract of a commit. No condition but what each theorem says. -/
import Derived.Test.YtiiinmleiigckaaGreatDoorGU
import Derived.Test.YtiiinmleiigckaaGreatDoorGT
import Derived.Deep.DeepCutAuto
set_option linter.unusedVariables false
set_option linter.unusedSimpArgs false

/- S22 -/
namespace Go.Proofs.Obj
open Go Go.RowKit Go.Proofs Go.ChangeMaps

theorem MapAt.del {kt t e : TypeId} {w : World} {b : Nat} {l : KV} (h : MapAt kt w b l) (hk : Tryz.prog.underlying kt = some .string) (ht : Tryz.prog.underlying t = some (.map kt e)) (s : ByteArray) (hs : s.size ≤ maxLen) (ty : TypeId) :
    ∃ w', (Builtin.delete_ #[t, kt] ty #[.map (some b), .string s]).run Tryz.prog w = .ok (.tuple #[]) w' ∧ MapAt kt w' b (gDel s.data.toList l) ∧ Chg (fun k => k = b) w w' := by
  obtain ⟨w', hrun, hown, es, clock, es', clock', hb, rfl⟩ := World.ownsMap.drop h (Maps.string_keyed hk) ht (keyOfS hk s hs) ty
  rw [toL_delD] at hown
  exact ⟨_, hrun, own_exact hown, rfl, rfl, rfl, by simp [setBlock], fun k _ hn => heap_setBlock_other hb _ (fun e => hn (by rw [e]))⟩
theorem cloneM_call {w : World} {mb : Nat} {kv : KV} (h : MapAt 9 w mb kv) : Calls Tryz.prog 69 #[.map (some mb)] w fun e w' => e = .returned (.map (some w.heap.size)) ∧ MapAt 9 w' w.heap.size kv ∧ Same w w' := by
  refine (AnyW.maps_Clone_owns Tryz.cloneM 9 HR mb _ _ w h).mono ?_
  rintro e w' ⟨rfl, h1, h2, h3⟩
  exact ⟨rfl, h1, Chg.of_below h3⟩

theorem Cut.of_own {w : World} {base n : Nat} {v : Value} {l : List Nat} (h : w.ownsRow base 3 1 v n (natInts l)) : Cut w v l := by
  have hn : n = l.length := by have := h.1; simp [natInts] at this; omega
  subst hn
  rcases h.2 with ⟨rfl, h0⟩ | ⟨g, cap, cur, rfl, hb, hg, hnc, hcm, _⟩
  · exact ⟨none, 0, by rw [h0], by omega, by omega, .inl ⟨rfl, List.eq_nil_of_length_eq_zero h0⟩⟩
  · exact ⟨_, cap, rfl, hnc, by simp only [maxLen] at hcm; omega, .inr ⟨g, 0, cur.toList, rfl, hg, own_rd h⟩⟩

theorem cov_used (l : List Nat) (p : Nat) : (!cov (usedRuns l) p) = (decide (2 ≤ p) && !l.contains p) := by
  have h : cov (usedRuns l) p = (decide (p < 2) || l.contains p) := by
    unfold cov usedRuns oneRuns
    rw [List.any_cons]
    have e0 : (decide ((0 : Nat) ≤ p) && decide (p < 0 + 2)) = decide (p < 2) := by simp
    dsimp only
    rw [e0]
    congr 1
    · rw [List.any_map, Bool.eq_iff_iff, List.any_eq_true]
      simp only [Function.comp, Bool.and_eq_true, decide_eq_true_eq, List.contains_eq_mem]
      constructor
      · rintro ⟨a, ha, h1, h2⟩
        have : a = p := by omega
        exact this ▸ ha
      · intro h
        exact ⟨p, h, by omega, by omega⟩
  rw [h, Bool.not_or]
  congr 1
  by_cases h2 : p < 2
  · rw [decide_eq_true h2, decide_eq_false (by omega : ¬ 2 ≤ p)]; rfl
  · rw [decide_eq_false h2, decide_eq_true (by omega : 2 ≤ p)]; rfl
theorem free_of {n : Nat} {idx : List Nat} {tab : Tab} {ks : List (List UInt8)} (hp : ks.Perm (tab.map (·.1))) (hn : (tab.map (·.1)).Nodup) :
    (List.range n).filter (fun p => !cov (usedRuns (idx ++ ks.flatMap (secsOf tab))) p) = freeOf n idx tab := by
  unfold freeOf
  congr 1
  funext p
  rw [cov_used]
  congr 2
  have h : (ks.flatMap (secsOf tab)).Perm (allSecs tab) := by
    have := hp.flatMap_right (secsOf tab)
    rwa [secsOf_all hn] at this
  rw [Bool.eq_iff_iff]
  simp only [List.contains_eq_mem, decide_eq_true_eq, List.mem_append, h.mem_iff]

/-- What is free, as a plan begins. -/
theorem free_call {w : World} {s d n turn : Nat} {idx : List Nat} {tab : Tab} {down : Bool} {rd : Nat → ByteArray} (hG : Good rd n turn idx tab) (hs : StoreAt w s d turn idx tab down) :
    Calls Tryz.prog 67 #[.pointer (some ⟨s, 0, none⟩)] w fun e w1 => ∃ v, e = .returned v ∧ Same w w1 ∧ ∀ W2, Same w1 W2 →
      Calls Tryz.prog 66 #[v, .int .i64 0, .int .i64 n] W2 fun e2 w2 => ∃ v2, e2 = .returned v2 ∧ Same W2 w2 ∧ ∀ W3, Same w2 W3 →
        Calls Tryz.prog 68 #[v2] W3 fun e3 w3 => ∃ v3, e3 = .returned v3 ∧ Cut w3 v3 (freeOf n idx tab) ∧ Same W3 w3 := by
  have hfew := hG.few
  have hn1 := hG.n1
  have hnd := hG.rising.nodup
  have hall : (allSecs tab).length = (tab.flatMap (·.2.secs)).length := rfl
  rw [List.length_append] at hfew
  refine (used_spec hs (by omega)).mono ?_
  rintro e w1 ⟨g, cap, ks, rfl, hrd, hperm, k1⟩
  have hpl : (ks.flatMap (secsOf tab)).Perm (allSecs tab) := by
    have := hperm.flatMap_right (secsOf tab)
    rwa [secsOf_all hnd] at this
  have hlen : (idx ++ ks.flatMap (secsOf tab)).length ≤ n := by rw [List.length_append, hpl.length_eq]; exact hfew
  have hmem : ∀ a ∈ idx ++ ks.flatMap (secsOf tab), a < n := fun a ha => by
    refine (hG.rng a ?_).2
    rcases List.mem_append.1 ha with h | h
    · exact List.mem_append.2 (.inl h)
    · exact List.mem_append.2 (.inr (hpl.mem_iff.1 h))
  refine ⟨_, rfl, k1, fun W2 k2 => (free_spec (cap := cap) (hrd.chg k2 (fun h => h)) (fun x hx => ?_) (by rw [usedRuns_length]; omega) (by rw [usedRuns_length]; omega) n (by omega)).mono ?_⟩
  · unfold usedRuns oneRuns at hx
    rcases List.mem_cons.1 hx with rfl | hx
    · exact ⟨by omega, by omega⟩
    · obtain ⟨a, ha, rfl⟩ := List.mem_map.1 hx
      have := hmem a ha
      exact ⟨Nat.le_refl _, by dsimp only; omega⟩
  · rintro e2 w2 ⟨v2, out, rfl, hrow, hpl2, hout, hol, k3⟩
    rw [free_of hperm hnd] at hpl2
    have hfl : (freeOf n idx tab).length ≤ n := by
      have := List.length_filter_le (fun p => decide (2 ≤ p) && !(idx ++ allSecs tab).contains p) (List.range n)
      rwa [List.length_range] at this
    refine ⟨v2, rfl, k3, fun W3 k4 => (sectors_spec (own_chg hrow k4 (fun _ _ h => h)) ?_ (fun r hr => by have := (hout r hr).2; omega) (by rw [hpl2]; omega)).mono ?_⟩
    · rw [usedRuns_length] at hol; omega
    · rintro e3 w3 ⟨v3, rfl, hrow3, k5⟩
      rw [hpl2] at hrow3
      exact ⟨v3, rfl, Cut.of_own hrow3, k5⟩
end Go.Proofs.Obj

/- S23 -/
namespace Go.Proofs.Obj
open Go Go.RowKit Go.Proofs Go.ChangeMaps

/-- A slot, a struct variable and a slot handed back. -/
theorem results_tmp_row_tmp {P : Program} {fn : Func} {p q u : Tmp} {ty : TypeId} (h : fn.results = #[.tmp q, .cell p ty, .tmp u]) (tmps : Array Value) (w : World) (g : Nat) (t : TypeId) (cs : List Value) (d : TypeDesc)
    (hp : tmps.getD p undef = .pointer (some ⟨g, 0, none⟩)) (hg : Blk w g t cs)
    (hu : P.underlying ty = some d) (hd : (match d with | .struct _ | .array _ _ => true | _ => false) = true) (hi : (P.info? ty).map (·.size) = some cs.length) :
    (results fn tmps).run P w = .ok (.tuple #[tmps.getD q undef, .agg cs.toArray, tmps.getD u undef]) w := by
  have e : (results fn tmps).run P w =
      ((asAddr (tmps.getD p undef)).run P w).andThen fun a w₁ => ((loadVar ty a).run P w₁).andThen fun v w₂ => .ok (.tuple #[tmps.getD q undef, v, tmps.getD u undef]) w₂ := by
    simp only [results, h]
    simp [Sem.run_bind, Result.andThen]
  rw [e, hp]
  simp [asAddr, Result.andThen, run_loadVar_row w g t ty cs.toArray (0, 0) d hg hu hd (by simpa using hi)]

theorem StoreAt.chg {w w' : World} {s d : Nat} {turn : Int} {idx : List Nat} {tab : Tab} {down : Bool} (h : StoreAt w s d turn idx tab down) {S : Nat → Prop} (k : Chg S w w') (h1 : ¬ S s) (h2 : ∀ b l, MapAt 9 w b l → ¬ S b) (h3 : Off3 w S) : StoreAt w' s d turn idx tab down := by
  obtain ⟨mb, iv, kv, hsb, hsec, hm, ht⟩ := h
  exact ⟨mb, iv, kv, Blk.chg hsb k h1, hsec.chg k h3, hm.chg k (h2 _ _ hm), ht.chg k h3⟩
theorem StoreAt.same {w w' : World} {s d : Nat} {turn : Int} {idx : List Nat} {tab : Tab} {down : Bool} (h : StoreAt w s d turn idx tab down) (k : Same w w') : StoreAt w' s d turn idx tab down := h.chg k (fun h => h) (fun _ _ _ h => h) (fun _ _ _ h => h)
theorem andR {p : Prop} {a b : World} {S : Nat → Prop} (h : p ∧ Chg S a b) : Chg S a b := h.2

theorem sKeep {w w' : World} {a : Addr} {v : Value} (h : w.cell? a = some v) (k : Same w w') : w'.cell? a = some v ∧ Same w w' := ⟨cell_chg k h (fun h => h), k⟩

/-- A plan, as it begins. -/
def PlanStart (w : World) (kv : KV) (F0 : List Nat) (t4 : Value) (wc : World) : Prop :=
  ∃ p wm lm fv, t4 = .pointer (some ⟨p, 0, none⟩) ∧ PB wc p fv wm lm (.slice none 0 0) ∧ Cut wc fv F0 ∧ MapAt 149 wc wm [] ∧ MapAt 9 wc lm kv ∧ Same w wc ∧ w.heap.size < p ∧ w.heap.size < wm ∧ w.heap.size < lm ∧ wm ≠ lm ∧ p ≠ wm ∧ p ≠ lm ∧ Blk wc w.heap.size 75 [.int .i64 0, .int .i64 0, .int .i64 0]
theorem PlanStart.mk {w wc : World} {kv : KV} {F0 : List Nat} {p wm lm : Nat} {fv : Value} (h : PB wc p fv wm lm (.slice none 0 0)) (h1 : Cut wc fv F0) (h2 : MapAt 149 wc wm []) (h3 : MapAt 9 wc lm kv) (h4 : Same w wc) (h5 : w.heap.size < wm) (h6 : wm ≠ lm) (h7 : w.heap.size < lm) (h8 : w.heap.size < p)
    (h9 : Blk wc w.heap.size 75 [.int .i64 0, .int .i64 0, .int .i64 0]) : PlanStart w kv F0 (.pointer (some ⟨p, 0, none⟩)) wc :=
  ⟨p, wm, lm, fv, rfl, h, h1, h2, h3, h4, h8, h5, h7, h6, fun e => h2.ne h e.symm, fun e => h3.ne h e.symm, h9⟩

theorem gDel_rowBytes (k : List UInt8) (t : Tab) : (rowBytes (gDel k t)).length ≤ (rowBytes t).length := by
  unfold rowBytes gDel
  induction t with
  | nil => exact Nat.le_refl _
  | cons a t ih =>
    rw [List.filter_cons]
    split
    · rw [List.flatMap_cons, List.flatMap_cons, List.length_append, List.length_append]; omega
    · rw [List.flatMap_cons, List.length_append]; omega
theorem gPut_rowBytes (k : List UInt8) (e : Ent) (t : Tab) : (rowBytes (gPut k e t)).length ≤ (rowBytes t).length + (entBytes (k, e)).length := by
  have h := ((gPut_perm k e t).flatMap_right entBytes).length_eq
  have h2 := gDel_rowBytes k t
  unfold rowBytes at *
  rw [h, List.flatMap_cons, List.length_append]
  omega
theorem planGo_row : ∀ (l : List PutM) (had : List (List UInt8)) {F : List Nat} {ws : KV} {tab : Tab} {r : List Nat × KV × Tab}, mayGo had l = true → planGo l F ws tab = some r → (rowBytes r.2.2).length ≤ (rowBytes tab).length + 4402 * l.length
  | [], _, F, ws, tab, r, _, hp => by
    rw [planGo] at hp
    obtain rfl := Option.some.inj hp
    simp
  | p :: l, had, F, ws, tab, r, hm, hp => by
    obtain ⟨h1, h2, h3, h4, h5⟩ := mayGo_cons hm
    rw [planGo] at hp
    rw [List.length_cons]
    split at hp
    · have := planGo_row l _ h5 hp
      have := gDel_rowBytes p.key tab
      omega
    · split at hp
      · rename_i hr
        have h6 := planGo_row l _ h5 hp
        have h7 := gPut_rowBytes p.key ⟨p.blob.length, F.take (manyOf p.blob.length 64)⟩ tab
        have h8 : (entBytes (p.key, ⟨p.blob.length, F.take (manyOf p.blob.length 64)⟩)).length ≤ 4402 := by
          unfold entBytes
          rw [List.length_append, List.length_append, List.length_append, littleL_length, littleL_length, secs_len, List.length_take_of_le hr]
          unfold manyOf
          dsimp only
          omega
        omega
      · cases hp
theorem mayGo_all : ∀ (l : List PutM) (had : List (List UInt8)), mayGo had l = true → ∀ p ∈ l, p.key.length ≤ 300 ∧ p.blob.length ≤ 131072
  | [], _, _, _, h => by simp at h
  | a :: l, had, hm, p, hp => by
    obtain ⟨_, h2, _, h4, h5⟩ := mayGo_cons hm
    rcases List.mem_cons.1 hp with rfl | hp
    · exact ⟨h2, h4⟩
    · exact mayGo_all l _ h5 p hp
theorem planned_none {n : Nat} {idx : List Nat} {tab : Tab} {l : List PutM} (h : planGo l (freeOf n idx tab) [] tab = none) : planned n idx tab l = none := by
  unfold planned; rw [h]
theorem chunkPut_length : ∀ (part : List Nat) (ws : KV) (s : List UInt8), (chunkPut ws part s).length ≤ ws.length + part.length
  | [], _, _ => Nat.le_refl _
  | a :: r, ws, s => by
    rw [chunkPut]
    have h1 := chunkPut_length r (kvPut (littleL a 2) (.string (S (pad64 s))) ws) (s.drop 64)
    have h2 := kvPut_length (littleL a 2) (.string (S (pad64 s))) ws
    rw [List.length_cons]; omega
theorem gDel_length {α : Type} (k : List UInt8) (l : KL α) : (gDel k l).length ≤ l.length := (gDel_sub k l).length_le

/-- What (*Store).planned hands back. -/
def PlannedPost (w : World) (n turn : Nat) (idx : List Nat) (tab : Tab) (l : List PutM) (e : Ending) (w' : World) : Prop :=
  match planned n idx tab l with
  | some pl => ∃ p wm lm fv iv kv, e = .returned (.tuple #[.pointer (some ⟨p, 0, none⟩), topV (turn + 1) (pl.idx.headD 0) (rowBytes pl.tab).length, .bool true]) ∧ PB w' p fv wm lm iv ∧ Secs w' iv pl.idx ∧ MapAt 149 w' wm pl.ws ∧ MapAt 9 w' lm kv ∧ TabAt w' kv pl.tab ∧ Same w w'
  | none => ∃ (a : Option Addr) (x0 x1 x2 : Int), e = .returned (.tuple #[.pointer a, .agg #[.int .i64 x0, .int .i64 x1, .int .i64 x2], .bool false]) ∧ Same w w'

set_option maxRecDepth 100000 in
set_option maxHeartbeats 4000000 in
theorem planned_spec {w : World} {s n turn : Nat} {idx : List Nat} {tab : Tab} {L : DL} {D : Dk} {rd : Nat → ByteArray} {v : Value} {l : List PutM} (hG : Good rd n turn idx tab) (hs : StoreAt w s L.d turn idx tab false) (hD : DiskAt w L D) (hn : D.firm.length = n) (hv : PutsAt w v l)
    (hmay : mayF l = true) (hll : l.length ≤ 64) (hsm : ∀ x ∈ tab, x.2.size ≤ 131072 ∧ x.1.length ≤ 300) :
    Calls Tryz.prog 45 #[.pointer (some ⟨s, 0, none⟩), v] w (PlannedPost w n turn idx tab l) := by
  obtain ⟨mb, iv0, kv, hsb, hsec0, hm, ht⟩ := hs
  have hs : StoreAt w s L.d turn idx tab false := ⟨mb, iv0, kv, hsb, hsec0, hm, ht⟩
  obtain ⟨A, cap, rfl, hrd⟩ := hv
  have hlen := hD.len
  subst hn
  have hA : Same w (w.alloc (.cells #[.int .i64 0, .int .i64 0, .int .i64 0] 75)) := (Chg.refl _ w).alloc _
  have hb5 := Blk.new w 75 [.int .i64 0, .int .i64 0, .int .i64 0]
  have hszA : (w.alloc (.cells #[.int .i64 0, .int .i64 0, .int .i64 0] 75)).heap.size = w.heap.size + 1 := by simp
  change Blk (w.alloc (.cells #[.int .i64 0, .int .i64 0, .int .i64 0] 75)) _ _ _ at hb5
  go_enter Tryz.func45, Tryz.ntmps45
  go_wp2
  generalize w.alloc (.cells #[.int .i64 0, .int .i64 0, .int .i64 0] 75) = A0 at *
  have s0 := (Blk.same hsb hA : SB _ _ _ _ _ _ _).cell 0
  simp only [List.getElem?_cons_zero] at s0
  have hfc := free_call hG (hs.same hA.drew)
  go_region_held3 (fun w' => w'.cell? ⟨s, 0, none⟩ = some (.pointer (some ⟨L.d, 0, none⟩))) (first | exact s0 | exact s1 | exact cell_chg (by assumption) s1 (fun h => h))
    (first
      | (go_at_call 67; refine hfc.mono ?_; rintro e w1 ⟨v1, rfl, k1, hf1⟩; have s1 := cell_chg k1 s0 (fun h => h))
      | (go_at_call 42; refine (len_spec (hD.same (hA.drew.trans k1))).mono ?_; rintro e w2 ⟨rfl, rfl⟩)
      | (go_at_call 66; refine (hf1 _ (.refl _ _)).mono ?_; rintro e w3 ⟨v2, rfl, k2, hf2⟩))
  have kA3 : Same A0 w3 := (((Chg.refl _ A0).drew).trans k1).trans k2
  have kw3 : Same w w3 := hA.trans kA3
  have s3 := (Blk.same hsb kw3 : SB _ _ _ _ _ _ _).cell 1
  simp only [List.getElem?_cons_zero, List.getElem?_cons_succ] at s3
  have hm3 := hm.same kw3
  have hb53 := hb5.same kA3
  have hsz3 := kA3.size
  have hmk := @run_makeMap Tryz.prog
  go_upto_region 2 with (fail)
  go_cut [4] (fun t4 wc => PlanStart w kv (freeOf D.firm.length idx tab) t4 wc)
  case first =>
    go_region_held3 (fun w' => w'.cell? ⟨s, 1, none⟩ = some (.map (some mb)) ∧ Same w3 w') (first | exact ⟨s3, (Chg.refl _ w3).drew⟩ | exact sKeep s3 ((andR (by assumption)).trans k5) | exact sKeep s3 ((andR (by assumption)).trans k4) | exact sKeep s3 ((andR (by assumption)).alloc _))
      (first
        | (go_at_call 68; refine (hf2 _ (andR (by assumption))).mono ?_; rintro e w4 ⟨v3, rfl, ⟨A3, cap3, rfl, hc3⟩, k4⟩)
        | (go_at_call 69; refine (cloneM_call (hm3.same (andR (by assumption)))).mono ?_; rintro e w5 ⟨rfl, hm5, k5⟩))
    all_goals go_wp2_with fail
    all_goals go_meet
    · have hs4 := k4.size
      have hs5 := k5.size
      simp only [World.size_alloc, World.size_drew] at hs4 hs5
      have kZ : Same w4 (w5.alloc (.cells #[.slice A3 (freeOf D.firm.length idx tab).length cap3, .map (some w4.heap.size), .map (some (w4.heap.size + 1)), .slice none 0 0] 97)) := (((Chg.refl _ w4).alloc _).trans k5).alloc _
      have k3Z := ((Chg.refl _ w3).drew.trans k4).trans kZ
      rw [World.size_alloc] at hm5
      exact PlanStart.mk (Blk.new w5 97 _) (Cut.same ⟨A3, cap3, rfl, hc3⟩ kZ (fun _ _ _ h => h)) ((MapAt.made 149 w4).same (k5.alloc _)) (hm5.same ((Chg.refl _ w5).alloc _)) (kw3.trans k3Z) (by omega) (by omega) (by omega) (by omega) (hb53.same k3Z)
    · have hs4 := k4.size
      have hs5 := k5.size
      simp only [World.size_alloc, World.size_drew] at hs4 hs5
      have kZ : Same w4 ((w5.alloc (.map #[] 0)).alloc (.cells #[.slice A3 (freeOf D.firm.length idx tab).length cap3, .map (some w5.heap.size), .map (some w4.heap.size), .slice none 0 0] 97)) := (k5.alloc _).alloc _
      have k3Z := ((Chg.refl _ w3).drew.trans k4).trans kZ
      have hlt := hm5.lt
      refine PlanStart.mk (wm := w5.heap.size) (lm := w4.heap.size) (fv := .slice A3 (freeOf D.firm.length idx tab).length cap3) ?_ (Cut.same ⟨A3, cap3, rfl, hc3⟩ kZ (fun _ _ _ h => h)) ((MapAt.made 149 w5).same ((Chg.refl _ _).alloc _)) (hm5.same (((Chg.refl _ w5).alloc _).alloc _)) (kw3.trans k3Z) (by omega) (by omega) (by omega) (by omega) (hb53.same k3Z)
      have := Blk.new (w5.alloc (.map #[] 0)) 97 [.slice A3 (freeOf D.firm.length idx tab).length cap3, .map (some w5.heap.size), .map (some w4.heap.size), .slice none 0 0]
      rwa [World.size_alloc] at this
    · have hs4 := k4.size
      have hs5 := k5.size
      simp only [World.size_alloc, World.size_drew] at hs4 hs5
      have kZ : Same w4 (w5.alloc (.cells #[.slice A3 (freeOf D.firm.length idx tab).length cap3, .map (some w3.heap.size), .map (some w4.heap.size), .slice none 0 0] 97)) := k5.alloc _
      have k3Z := ((((Chg.refl _ w3).alloc _).drew).trans k4).trans kZ
      exact PlanStart.mk (Blk.new w5 97 _) (Cut.same ⟨A3, cap3, rfl, hc3⟩ kZ (fun _ _ _ h => h)) ((((MapAt.made 149 w3).same ((Chg.refl _ _).drew)).same k4).same kZ) (hm5.same ((Chg.refl _ w5).alloc _)) (kw3.trans k3Z) (by omega) (by omega) (by omega) (by omega) (hb53.same k3Z)
  case rest =>
    obtain ⟨p, wm, lm, fv, rfl, hp, hc, hmw, hml, kc, hpw, hwmw, hlmw, hwl, hpwm, hplm, hb5c⟩ := hcut
    have hrc := hrd.same kc
    have htc : TabAt wc kv tab := TabAt.chg kc (fun _ _ _ h => h) ht
    have hF0l : (freeOf D.firm.length idx tab).length ≤ 4096 := by
      have := List.length_filter_le (fun p => decide (2 ≤ p) && !(idx ++ allSecs tab).contains p) (List.range D.firm.length)
      rw [List.length_range] at this
      exact Nat.le_trans this hlen
    have hF0a : ∀ a ∈ freeOf D.firm.length idx tab, a < 65536 := fun a ha => by have := (freeOf_mem ha).2.1; omega
    have hkvl : kv.length ≤ 40000 := by
      rw [ht.length]
      have h : ∀ t : Tab, (∀ x ∈ t, EntOK x) → t.length * 7 ≤ (rowBytes t).length := by
        intro t
        induction t with
        | nil => intro _; exact Nat.le_refl _
        | cons x t ih =>
          intro h
          have h1 := ih (fun y hy => h y (by simp [hy]))
          have h2 := (h x (by simp)).1
          unfold rowBytes at *
          rw [List.flatMap_cons, List.length_append, List.length_cons]
          have : (entBytes x).length = 2 + x.1.length + 4 + 2 * x.2.secs.length := by unfold entBytes; rw [List.length_append, List.length_append, List.length_append, littleL_length, littleL_length, secs_len]
          omega
      have := h tab hG.ok
      have := hG.rowLen
      omega
    have hsb' : SB wc s L.d mb turn iv0 false := Blk.same hsb kc
    have hswm : s ≠ p := fun e => by have := Blk.lt hsb; omega
    clear hs hD hfc hf1 hf2 hm3 hb53 s3 s0 s1 hmk hm
    generalize hF0 : freeOf D.firm.length idx tab = F0 at *
    have HF0 := Lib.hid hF0
    clear hF0
    go_wp2
    go_loopw [4, 6, 32] (fun t4 t6 i wr => ∃ (j : Nat) (b6 : Bool) (F : List Nat) (ws kv' : KV) (tab' : Tab) (fv' : Value), j ≤ l.length ∧ i = .int .i64 j ∧ t6 = .bool b6 ∧ t4 = .pointer (some ⟨p, 0, none⟩) ∧ PB wr p fv' wm lm (.slice none 0 0) ∧ Cut wr fv' F ∧ MapAt 149 wr wm ws ∧ ws.length + F.length ≤ 4096 ∧ (∀ a ∈ F, a < 65536) ∧
        MapAt 9 wr lm kv' ∧ TabAt wr kv' tab' ∧ kv'.length ≤ 40000 + j ∧ Hid (planGo (l.drop j) F ws tab' = planGo l F0 [] tab) ∧ Chg (fun k => k = p ∨ k = wm ∨ k = lm) wc wr) (fun _ _ i _ => l.length - (intOf i).toNat)
    case atStart => exact ⟨0, false, F0, [], kv, tab, fv, Nat.zero_le _, rfl, rfl, rfl, hp, hc, hmw, by simpa using hF0l, hF0a, hml, htc, hkvl, Lib.hid rfl, .refl _ _⟩
    case round =>
      obtain ⟨j, b6, F, ws, kv', tab', fv', hjl, rfl, rfl, rfl, hpr, hcr, hmr, hwl', hFa, hlr, htr, hkl', Hplan, hch⟩ := hrel
      by_cases hjt : j < l.length
      · have hpc : 0 < (putsCells l).length := by
          have := (List.getElem?_eq_some_iff.1 (putsCells_at l j hjt).1).1
          omega
        obtain ⟨b, off, rfl, hrr⟩ := hrd.at_ hpc
        have kwr : Chg (fun k => w.heap.size < k) w wr := kc.trans' hch (U := fun k => w.heap.size < k) (fun _ _ h => h.elim) (fun _ _ h => by rcases h with h | h | h <;> omega)
        have hbw : ¬ w.heap.size < b := by
          have := World.block_lt_of_cell? w _ (hrr _ _ (putsCells_at l j hjt).1)
          dsimp only at this
          omega
        have c0 := cell_chg kwr (hrr _ _ (putsCells_at l j hjt).1) hbw
        have c1 := cell_chg kwr (hrr _ _ (putsCells_at l j hjt).2.1) hbw
        have c2 := cell_chg kwr (hrr _ _ (putsCells_at l j hjt).2.2) hbw
        rw [← Nat.add_assoc] at c1 c2
        obtain ⟨hk1, hk2⟩ := mayGo_all l _ hmay _ (List.getElem_mem hjt)
        have hdr : l.drop j = l[j] :: l.drop (j + 1) := List.drop_eq_getElem_cons hjt
        have hpl2 := Hplan.out
        rw [hdr, planGo] at hpl2
        have Hp2 := Lib.hid hpl2
        clear hpl2 Hplan hdr hpc hrr
        generalize l[j] = q at *
        have hX : Same wr (wr.alloc (.cells #[.string (S q.key), .string (S q.blob), .bool q.gone] 43)) := (Chg.refl _ wr).alloc _
        have hqX := Blk.new wr 43 [.string (S q.key), .string (S q.blob), .bool q.gone]
        have hpX : PB _ p fv' wm lm (.slice none 0 0) := Blk.same hpr hX
        have x2 := hpX.cell 2
        simp only [List.getElem?_cons_zero, List.getElem?_cons_succ] at x2
        obtain ⟨d0, d1, d2, _⟩ := hqX.st3
        have hsk := S_size q.key
        have hsbl := S_size q.blob
        cases hg : q.gone
        · rw [hg] at c2 hX hqX hpX x2 d0 d1 d2
          have hpl2 := Hp2.out
          rw [if_neg (by rw [hg]; simp)] at hpl2
          by_cases hroom : manyOf q.blob.length 64 ≤ F.length
          · rw [if_pos hroom] at hpl2
            have Hp3 := Lib.hid hpl2
            clear hpl2 Hp2 hg
            have hlF : (F.take (manyOf q.blob.length 64)).length = manyOf q.blob.length 64 := List.length_take_of_le hroom
            have hlD : (F.drop (manyOf q.blob.length 64)).length + manyOf q.blob.length 64 = F.length := by rw [List.length_drop]; omega
            have hcpl := chunkPut_length (F.take (manyOf q.blob.length 64)) ws q.blob
            rw [hlF] at hcpl
            have hFd : ∀ a ∈ F.drop (manyOf q.blob.length 64), a < 65536 := fun a ha => hFa a (List.mem_of_mem_drop ha)
            have hblobc : ∀ W, Same wr W → Calls Tryz.prog 70 #[.pointer (some ⟨p, 0, none⟩), .string (S q.blob)] W fun e w' => ∃ A6 cap6 fv2, e = .returned (.tuple #[.agg #[.int .i64 q.blob.length, .slice A6 (manyOf q.blob.length 64) cap6], .bool true]) ∧
                Secs w' (.slice A6 (manyOf q.blob.length 64) cap6) (F.take (manyOf q.blob.length 64)) ∧ PB w' p fv2 wm lm (.slice none 0 0) ∧ Cut w' fv2 (F.drop (manyOf q.blob.length 64)) ∧ MapAt 149 w' wm (chunkPut ws (F.take (manyOf q.blob.length 64)) q.blob) ∧ Chg (fun k => k = p ∨ k = wm) W w' := fun W k => by
              refine (blob_yes (Blk.same hpr k) (hcr.same k (fun _ _ _ h => h)) (hmr.same k) (by omega) hFa q.blob (by omega) hroom).mono ?_
              intro e w' h
              rw [BlobPost, if_pos hroom] at h
              obtain ⟨ov, fv2, rfl, ⟨A6, cap6, rfl, hs6⟩, h1, h2, h3, h4⟩ := h
              rw [hlF]
              exact ⟨A6, cap6, fv2, rfl, ⟨A6, cap6, by rw [hlF], hs6⟩, h1, h2, h3, h4⟩
            have HlF := Lib.hid hlF
            clear hlF
            generalize manyOf q.blob.length 64 = mn at *
            have hq1 : lm < wr.heap.size := hlr.lt
            have hq2 : p < wr.heap.size := Blk.lt hpr
            have hq3 : wm < wr.heap.size := hmr.lt
            go_wp2
            go_region_held3 (fun w' => w'.cell? ⟨p, 2, none⟩ = some (.map (some lm)) ∧ w'.cell? ⟨wr.heap.size, 0, none⟩ = some (.string (S q.key)) ∧ w'.cell? ⟨wr.heap.size, 1, none⟩ = some (.string (S q.blob)))
              (first | exact ⟨x2, d0, d1⟩ | exact ⟨y2, y0, y1⟩ | exact ⟨cell_chg hc' y2 hplm, cell_chg hc' y0 (show ¬ wr.heap.size = lm by omega), cell_chg hc' y1 (show ¬ wr.heap.size = lm by omega)⟩)
              (first
                | (go_at_call 70; refine (hblobc _ hX.drew).mono ?_; rintro e w6 ⟨A6, cap6, fv2, rfl, hs6, hp6, hc6, hm6, k6⟩
                   have y2 := Blk.cell hp6 2
                   simp only [List.getElem?_cons_zero, List.getElem?_cons_succ] at y2
                   have y0 := cell_chg k6 d0 (show ¬ (wr.heap.size = p ∨ wr.heap.size = wm) by omega)
                   have y1 := cell_chg k6 d1 (show ¬ (wr.heap.size = p ∨ wr.heap.size = wm) by omega)
                   have kX6 : Chg (fun k => k = p ∨ k = wm) wr w6 := Chg.after_same hX.drew k6
                   have hl6 := hlr.chg kX6 (fun h => h.elim (fun e => hplm e.symm) (fun e => hwl e.symm))
                   obtain ⟨W', hrun, hm', hc'⟩ := MapAt.put (t := 71) (e := 99) hl6 Tryz.underlying9 Tryz.underlying71 (by simp only [maxLen]; omega) (S q.key) (by rw [S_size]; simp only [maxLen]; omega) (.agg #[.int .i64 q.blob.length, .slice A6 mn cap6])
                   rw [show (S q.key).data.toList = q.key from rfl] at hm'))
            have hpu := kvPut_length q.key (.agg #[.int .i64 q.blob.length, .slice A6 mn cap6]) kv'
            have Hpu := Lib.hid hpu
            clear hpu
            go_wp2
            have o6 : Off3 w6 (fun k => k = lm) := hl6.off3
            have hp9 : PB W' p fv2 wm lm (.slice none 0 0) := Blk.chg hp6 hc' hplm
            have o0 : Off3 wr (fun k => k = p ∨ k = wm) := fun b c hb h => h.elim (fun e => hb.type_ne hpr (by decide) e) (fun e => by subst e; exact hmr.ne hb rfl)
            have ht9 : TabAt W' (kvPut q.key (.agg #[.int .i64 q.blob.length, .slice A6 mn cap6]) kv') (gPut q.key ⟨q.blob.length, F.take mn⟩ tab') := TabAt.put (e := ⟨q.blob.length, F.take mn⟩) ⟨.slice A6 mn cap6, rfl, hs6.chg hc' o6⟩ ((htr.chg kX6 o0).chg hc' o6)
            refine ⟨⟨j + 1, true, F.drop mn, chunkPut ws (F.take mn) q.blob, _, _, fv2, by omega, rfl, rfl, rfl, hp9, hc6.same hc' o6, hm6.chg hc' hwl, by omega, hFd, hm', ht9, by have := Hpu.out; omega, Hp3, (hch.trans' kX6 (U := fun k => k = p ∨ k = wm ∨ k = lm) (fun _ _ h => h) (fun _ _ h => h.elim .inl (fun e => .inr (.inl e)))).trans' hc' (fun _ _ h => h) (fun _ _ h => .inr (.inr h))⟩, ?_⟩
            simp only [intOf]; omega
          · rw [if_neg hroom] at hpl2
            have hnone := planned_none (HF0.out ▸ hpl2.symm)
            have Hnone := Lib.hid hnone
            clear hnone hpl2 Hp2 hg
            have hblobc : ∀ W, Same wr W → Calls Tryz.prog 70 #[.pointer (some ⟨p, 0, none⟩), .string (S q.blob)] W fun e w' => e = .returned (.tuple #[.agg #[.int .i64 q.blob.length, .slice none 0 0], .bool false]) ∧ Same W w' := fun W k => by
              refine (blob_no (Blk.same hpr k) (hcr.same k (fun _ _ _ h => h)) q.blob (ws := ws) (wm := wm) (by omega) hroom).mono ?_
              intro e w' h
              rw [BlobPost, if_neg hroom] at h
              exact h
            generalize manyOf q.blob.length 64 = mn at *
            have hq1 : lm < wr.heap.size := hlr.lt
            have hq2 : p < wr.heap.size := Blk.lt hpr
            go_wp2
            go_region_held3 (fun w' => w'.cell? ⟨p, 2, none⟩ = some (.map (some lm)) ∧ w'.cell? ⟨wr.heap.size, 0, none⟩ = some (.string (S q.key)) ∧ w'.cell? ⟨wr.heap.size, 1, none⟩ = some (.string (S q.blob)))
              (first | exact ⟨x2, d0, d1⟩ | exact ⟨y2, y0, y1⟩ | exact ⟨cell_chg hc' y2 hplm, cell_chg hc' y0 (show ¬ wr.heap.size = lm by omega), cell_chg hc' y1 (show ¬ wr.heap.size = lm by omega)⟩)
              (first
                | (go_at_call 70; refine (hblobc _ hX.drew).mono ?_; rintro e w6 ⟨rfl, k6⟩
                   have y2 := cell_chg k6 x2 (fun h => h)
                   have y0 := cell_chg k6 d0 (fun h => h)
                   have y1 := cell_chg k6 d1 (fun h => h)
                   have kX6 : Same wr w6 := hX.drew.trans k6
                   obtain ⟨W', hrun, hm', hc'⟩ := MapAt.put (t := 71) (e := 99) (hlr.same kX6) Tryz.underlying9 Tryz.underlying71 (by simp only [maxLen]; omega) (S q.key) (by rw [S_size]; simp only [maxLen]; omega) (.agg #[.int .i64 q.blob.length, .slice none 0 0])))
            have kw9 : Chg (fun k => w.heap.size < k) w W' := (kwr.then_same kX6).trans' hc' (fun _ _ h => h) (fun j hj e => by omega)
            have kc9 : Chg (fun k => w.heap.size < k) wc W' := ((hch.mono (T := fun k => w.heap.size < k) (fun k _ h => by rcases h with h | h | h <;> omega)).then_same kX6).trans' hc' (fun _ _ h => h) (fun j hj e => by omega)
            have hb9 := hb5c.chg kc9 (by omega)
            obtain ⟨z0, z1, z2, f0, f1, f2, c01, f01, c012, f012⟩ := hb9.st3
            have hbF := hb9.put3 (.int .i64 0) (.int .i64 0) (.int .i64 0)
            have kF := kw9.trans' (U := fun _ => False) (Chg.put3 W' w.heap.size (.int .i64 0) (.int .i64 0) (.int .i64 0)) (fun j hj h => by omega) (fun j hj e => by omega)
            go_wp2
            go_region_with (fail)
            all_goals
              go_wp2
              refine bodyPost_ret_by (results_tmp_row_tmp rfl _ _ w.heap.size 75 [.int .i64 0, .int .i64 0, .int .i64 0] _ rfl hbF Tryz.underlying75 rfl (by kernel_rfl)) rfl ?_
              unfold PlannedPost
              rw [Hnone.out]
              exact ⟨none, 0, 0, 0, rfl, kF.drew⟩
        · rw [hg] at c2 hX hqX hpX x2 d0 d1 d2
          have hpl2 := Hp2.out
          rw [if_pos hg] at hpl2
          have Hp3 := Lib.hid hpl2
          clear hpl2 Hp2 hg
          obtain ⟨W', hrun, hm', hc'⟩ := MapAt.del (t := 71) (e := 99) (hlr.same hX.drew) Tryz.underlying9 Tryz.underlying71 (S q.key) (by rw [S_size]; simp only [maxLen]; omega) 0
          rw [show (S q.key).data.toList = q.key from rfl] at hm'
          have hgl := gDel_length q.key kv'
          have hq1 : lm < wr.heap.size := hlr.lt
          go_wp2
          go_region_held3 (fun w' => w'.cell? ⟨p, 2, none⟩ = some (.map (some lm)) ∧ w'.cell? ⟨wr.heap.size, 0, none⟩ = some (.string (S q.key))) (first | exact ⟨x2, d0⟩ | exact ⟨cell_chg hc' x2 hplm, cell_chg hc' d0 (show ¬ wr.heap.size = lm by omega)⟩) (fail)
          go_wp2
          have kX : Chg (fun k => k = lm) wr W' := Chg.after_same hX.drew hc'
          have hp9 : PB W' p fv' wm lm (.slice none 0 0) := Blk.chg hpr kX hplm
          have hc9 := hcr.same kX hlr.off3
          have ht9 : TabAt W' (gDel q.key kv') (gDel q.key tab') := TabAt.del _ (TabAt.chg kX hlr.off3 htr)
          refine ⟨⟨j + 1, b6, F, ws, gDel q.key kv', gDel q.key tab', fv', by omega, rfl, rfl, rfl, hp9, hc9, hmr.chg kX hwl, hwl', hFa, hm', ht9, by omega, Hp3, hch.trans' kX (fun _ _ h => h) (fun _ _ h => .inr (.inr h))⟩, ?_⟩
          simp only [intOf]; omega
      · obtain rfl : j = l.length := by omega
        have hgo := Hplan.out
        rw [List.drop_of_length_le (Nat.le_refl _), planGo] at hgo
        rw [← HF0.out] at hgo
        have inv := planGo_inv hG.n1 l [] (PlanInv.start hG hsm) hmay hgo.symm
        have hrl := planGo_row l [] hmay hgo.symm
        have hrl0 := hG.rowLen
        dsimp only at inv hrl
        have hrow := prow_spec hpr hcr hmr (by omega) hFa hlr htr inv.ok (by omega) (by omega)
        have hpld : planned D.firm.length idx tab l = if manyOf (rowBytes tab').length 58 ≤ F.length then some ⟨F.take (manyOf (rowBytes tab').length 58), rowChunks ws (F.take (manyOf (rowBytes tab').length 58)) (rowBytes tab'), tab'⟩ else none := by
          unfold planned
          rw [← hgo]
        have htl := hG.tlt
        have kwr : Chg (fun k => w.heap.size < k) w wr := kc.trans' hch (U := fun k => w.heap.size < k) (fun _ _ h => h.elim) (fun _ _ h => by rcases h with h | h | h <;> omega)
        have kcr : Chg (fun k => w.heap.size < k) wc wr := hch.mono (fun k _ h => by rcases h with h | h | h <;> omega)
        have hslt := Blk.lt hsb
        have hwc := kc.size
        have hRb : (rowBytes tab').length ≤ 600000 := by omega
        clear inv hrl hrl0 hG Hplan hgo
        generalize hR : rowBytes tab' = R at *
        have HR := Lib.hid hR
        clear hR
        by_cases hroom : manyOf R.length 58 ≤ F.length
        · rw [if_pos hroom] at hpld
          have Hpld := Lib.hid hpld
          clear hpld
          have hrow2 := hrow.mono (R' := fun e w' => ∃ iv' fv', e = .returned (.tuple #[.int .i64 ((F.take (manyOf R.length 58)).headD 0 : Nat), .int .i64 R.length, .bool true]) ∧ PB w' p fv' wm lm iv' ∧ Secs w' iv' (F.take (manyOf R.length 58)) ∧
            MapAt 149 w' wm (rowChunks ws (F.take (manyOf R.length 58)) R) ∧ Chg (fun k => k = p ∨ k = wm) wr w') (fun e w' h => by rw [RowPost, if_pos hroom] at h; exact h)
          generalize hat : (F.take (manyOf R.length 58)).headD 0 = at0 at *
          have Hat := Lib.hid hat
          clear hat hrow
          go_wp2_with (go_at_call 71; refine hrow2.mono ?_; rintro e W9 ⟨iv9, fv9, rfl, hp9, hs9, hm9, k9⟩)
          have kw9 : Chg (fun k => w.heap.size < k) w W9 := kwr.trans' k9 (fun _ _ h => h) (fun j hj h => by rcases h with h | h <;> omega)
          have kc9 : Chg (fun k => w.heap.size < k) wc W9 := kcr.trans' k9 (fun _ _ h => h) (fun j hj h => by rcases h with h | h <;> omega)
          have hb9 := hb5c.chg kc9 (by omega)
          obtain ⟨z0, z1, z2, f0, f1, f2, c01, f01, c012, f012⟩ := hb9.st3
          have hs2 := (Blk.chg hsb kw9 (by omega) : SB W9 s L.d mb turn iv0 false).cell 2
          simp only [List.getElem?_cons_zero, List.getElem?_cons_succ] at hs2
          have hbF := hb9.put3 (.int .i64 ((turn : Int) + 1)) (.int .i64 (at0 : Nat)) (.int .i64 R.length)
          have kP := Chg.put3 W9 w.heap.size (.int .i64 ((turn : Int) + 1)) (.int .i64 (at0 : Nat)) (.int .i64 R.length)
          have kPd := kP.drew
          have kF := kw9.trans' (U := fun _ => False) kP (fun j hj h => by omega) (fun j hj e => by omega)
          have wz : IntKind.i64.wrap ((turn : Int) + 1) = (turn : Int) + 1 := by rw [IntKind.wrap_i64]; omega
          have hn1 : p ≠ w.heap.size := by omega
          have hn2 : wm ≠ w.heap.size := by omega
          have hn3 : lm ≠ w.heap.size := by omega
          have hl9 := hlr.chg k9 (fun h => h.elim (fun e => hplm e.symm) (fun e => hwl e.symm))
          have o0 : Off3 wr (fun k => k = p ∨ k = wm) := fun b c hb h => h.elim (fun e => hb.type_ne hpr (by decide) e) (fun e => by subst e; exact hmr.ne hb rfl)
          have ht9 := htr.chg k9 o0
          have oP : Off3 W9 (fun k => k = w.heap.size) := fun b c hb e => hb.type_ne hb9 (by decide) e
          go_region_with (fail)
          all_goals
            go_wp2
            refine bodyPost_ret_by (results_tmp_row_tmp rfl _ _ w.heap.size 75 [.int .i64 ((turn : Int) + 1), .int .i64 (at0 : Nat), .int .i64 R.length] _ rfl hbF Tryz.underlying75 rfl (by kernel_rfl)) rfl ?_
            unfold PlannedPost
            rw [Hpld.out]
            refine ⟨p, wm, lm, fv9, iv9, kv', ?_, Blk.chg hp9 kPd hn1, hs9.chg kPd oP, hm9.chg kPd hn2, hl9.chg kPd hn3, ht9.chg kPd oP, kF.drew⟩
            dsimp only
            rw [Hat.out, HR.out]
            rfl
        · rw [if_neg hroom] at hpld
          have Hpld := Lib.hid hpld
          clear hpld
          have hrow2 := hrow.mono (R' := fun e w' => e = .returned (.tuple #[.int .i64 0, .int .i64 0, .bool false]) ∧ Chg (fun k => k = p ∨ k = wm) wr w' ∧ ∃ iv' fv', PB w' p fv' wm lm iv') (fun e w' h => by rw [RowPost, if_neg hroom] at h; exact h)
          clear hrow
          go_wp2_with (go_at_call 71; refine hrow2.mono ?_; rintro e W9 ⟨rfl, k9, _⟩)
          have kw9 : Chg (fun k => w.heap.size < k) w W9 := kwr.trans' k9 (fun _ _ h => h) (fun j hj h => by rcases h with h | h <;> omega)
          have kc9 : Chg (fun k => w.heap.size < k) wc W9 := kcr.trans' k9 (fun _ _ h => h) (fun j hj h => by rcases h with h | h <;> omega)
          have hb9 := hb5c.chg kc9 (by omega)
          obtain ⟨z0, z1, z2, f0, f1, f2, c01, f01, c012, f012⟩ := hb9.st3
          have hs2 := (Blk.chg hsb kw9 (by omega) : SB W9 s L.d mb turn iv0 false).cell 2
          simp only [List.getElem?_cons_zero, List.getElem?_cons_succ] at hs2
          have hbF := hb9.put3 (.int .i64 ((turn : Int) + 1)) (.int .i64 0) (.int .i64 0)
          have kF := kw9.trans' (U := fun _ => False) (Chg.put3 W9 w.heap.size (.int .i64 ((turn : Int) + 1)) (.int .i64 0) (.int .i64 0)) (fun j hj h => by omega) (fun j hj e => by omega)
          have wz : IntKind.i64.wrap ((turn : Int) + 1) = (turn : Int) + 1 := by rw [IntKind.wrap_i64]; omega
          go_region_with (fail)
          all_goals
            go_wp2
            refine bodyPost_ret_by (results_tmp_row_tmp rfl _ _ w.heap.size 75 [.int .i64 ((turn : Int) + 1), .int .i64 0, .int .i64 0] _ rfl hbF Tryz.underlying75 rfl (by kernel_rfl)) rfl ?_
            unfold PlannedPost
            rw [Hpld.out]
            exact ⟨some ⟨p, 0, none⟩, (turn : Int) + 1, 0, 0, rfl, kF.drew⟩
end Go.Proofs.Obj

/- S24 -/
namespace Go.Proofs.Obj
open Go Go.RowKit Go.Shelf
attribute [local go_sem] Oper.semAt_some

/-- Writes, one behind the other, till one is refused. -/
def Dk.writes : Dk → List (Nat × ByteArray) → Dk × Int
  | D, [] => (D, 0)
  | D, x :: l => if (D.write x.1 x.2).2 = 0 then (D.write x.1 x.2).1.writes l else D.write x.1 x.2
theorem writes_append : ∀ (l m : List (Nat × ByteArray)) (D : Dk), D.writes (l ++ m) = if (D.writes l).2 = 0 then (D.writes l).1.writes m else D.writes l
  | [], m, D => by simp [Dk.writes]
  | x :: l, m, D => by
    rw [List.cons_append, Dk.writes, Dk.writes]
    by_cases h : (D.write x.1 x.2).2 = 0
    · rw [if_pos h, if_pos h, writes_append l m]
    · rw [if_neg h, if_neg h, if_neg h]
/-- What (*Store).carry does to a disk. -/
def carryF (D : Dk) (l : List (Nat × ByteArray)) (i : Nat) (h : ByteArray) : Dk × Int :=
  if (D.writes l).2 = 0 then
    if (D.writes l).1.flush.2 = 0 then
      if ((D.writes l).1.flush.1.write i h).2 = 0 then ((D.writes l).1.flush.1.write i h).1.flush else (D.writes l).1.flush.1.write i h
    else (D.writes l).1.flush
  else D.writes l

theorem write_loose (D : Dk) (i : Int) (s : ByteArray) : (D.write i s).1.loose.length ≤ D.loose.length + 1 ∧ (D.write i s).1.firm = D.firm := by
  unfold Dk.write
  split
  · exact ⟨Nat.le_succ _, rfl⟩
  · split
    · exact ⟨Nat.le_succ _, rfl⟩
    · split
      · exact ⟨Nat.le_succ _, rfl⟩
      · exact ⟨by simp, rfl⟩
theorem decW_snoc (pre : KV) (a : Nat) (ha : a < 65536) (s : ByteArray) : decW (pre ++ [(littleL a 2, Value.string s)]) = decW pre ++ [(a, s)] := by
  unfold decW
  rw [List.map_append, List.map_cons, List.map_nil, num_little2 ha]
theorem little2_bytes (a : Nat) : littleL a 2 = [byteAt a 0, byteAt a 1] := by simp [littleL, List.range_succ]
theorem byte2 {a : Nat} (ha : a < 65536) : bits BinOp.or IntKind.i64 ((byteAt a 0).toNat : Int) (((byteAt a 1).toNat : Int) * 256) = (a : Int) := by
  have h0 : (byteAt a 0).toNat = a % 256 := by simp [byteAt]
  have h1 : (byteAt a 1).toNat = a / 256 := by simp [byteAt]; omega
  have := or_add (byteAt a 0).toNat (byteAt a 1).toNat 1 (by rw [h0]; omega) (by omega) (by rw [h1]; omega)
  rw [show ((2 : Int) ^ (8 * 1)) = 256 from rfl] at this
  rw [this, h0, h1]
  omega

/-- A disk behind a call, its loose row somewhere. -/
def DAt (w V : World) (L : DL) (D : Dk) : Prop := ∃ L', DiskAt V L' D ∧ L'.d = L.d ∧ L'.fb = L.fb ∧ ∀ k, L'.fp k → L.fp k ∨ w.heap.size ≤ k

theorem DiskAt.fp_map {w : World} {L : DL} {D : Dk} (hD : DiskAt w L D) {kt : TypeId} {b : Nat} {l : KV} (hm : MapAt kt w b l) {k : Nat} (h : L.fp k) : k ≠ b := by
  rcases h with rfl | rfl | h
  · exact fun e => hm.ne hD.blk e.symm
  · exact fun e => hm.ne hD.fblk e.symm
  · obtain ⟨c, hc⟩ := own_type hD.row h
    exact fun e => hm.ne (t := 119) (c := c.toList) hc e.symm
/-- The rounds' state: all has been written so far (e = 0), or the last write was refused. -/
def CarryI (L : DL) (D : Dk) (q : Nat) (e : Int) (pre : List (List UInt8 × Value)) (M : Nat → Prop) (V : World) : Prop :=
  M q ∧ (D.writes (decW pre)).2 = e ∧ Blk V q 27 [.int .i64 e] ∧ ∃ L', DiskAt V L' (D.writes (decW pre)).1 ∧ L'.d = L.d ∧ L'.fb = L.fb ∧ (∀ k, L'.fp k → M k) ∧ (D.writes (decW pre)).1.loose.length ≤ 10 + pre.length
theorem CarryI.stab {L : DL} {D : Dk} {q : Nat} {e : Int} {base : Nat} : Stab base (CarryI L D q e) := by
  rintro pre M A B ⟨h1, h2, h3, L', h4, h5, h6, h7, h8⟩ hc
  exact ⟨h1, h2, h3.chg hc (fun h => h.2 h1), L', h4.chg hc (fun b hb h => h.2 (h7 b hb)), h5, h6, h7, h8⟩

def CarryPost (w : World) (L : DL) (r : Dk × Int) (e : Ending) (w' : World) : Prop := e = .returned (.int .i64 r.2) ∧ DAt w w' L r.1 ∧ Chg L.fp w w'

theorem carryMid (w : World) (x y z u v : Value) (m : Nat) :
    Blk ((((w.alloc (.cells #[x] 26)).alloc (.cells #[y, z, u] 75)).alloc (.cells #[v] 27)).alloc (.cells #[.map (some m)] 95)) w.heap.size 26 [x] ∧
    Blk ((((w.alloc (.cells #[x] 26)).alloc (.cells #[y, z, u] 75)).alloc (.cells #[v] 27)).alloc (.cells #[.map (some m)] 95)) (w.heap.size + 1) 75 [y, z, u] ∧
    Blk ((((w.alloc (.cells #[x] 26)).alloc (.cells #[y, z, u] 75)).alloc (.cells #[v] 27)).alloc (.cells #[.map (some m)] 95)) (w.heap.size + 1 + 1) 27 [v] ∧
    Blk ((((w.alloc (.cells #[x] 26)).alloc (.cells #[y, z, u] 75)).alloc (.cells #[v] 27)).alloc (.cells #[.map (some m)] 95)) (w.heap.size + 1 + 1 + 1) 95 [.map (some m)] ∧
    Same w ((((w.alloc (.cells #[x] 26)).alloc (.cells #[y, z, u] 75)).alloc (.cells #[v] 27)).alloc (.cells #[.map (some m)] 95)) ∧
    ((((w.alloc (.cells #[x] 26)).alloc (.cells #[y, z, u] 75)).alloc (.cells #[v] 27)).alloc (.cells #[.map (some m)] 95)).heap.size = w.heap.size + 4 := by
  have b1 := Blk.new (w.alloc (.cells #[x] 26)) 75 [y, z, u]
  have b2 := Blk.new ((w.alloc (.cells #[x] 26)).alloc (.cells #[y, z, u] 75)) 27 [v]
  have b3 := Blk.new (((w.alloc (.cells #[x] 26)).alloc (.cells #[y, z, u] 75)).alloc (.cells #[v] 27)) 95 [.map (some m)]
  simp only [World.size_alloc] at b1 b2 b3
  refine ⟨(((Blk.new w 26 [x]).alloc _).alloc _).alloc _, (b1.alloc _).alloc _, b2.alloc _, b3, ((((Chg.refl _ w).alloc _).alloc _).alloc _).alloc _, by simp⟩

set_option maxRecDepth 100000 in
set_option maxHeartbeats 4000000 in
theorem carry_spec {w : World} {s mb p wm lm : Nat} {turn : Int} {iv fv iv2 : Value} {down : Bool} {L : DL} {D : Dk} {ws : KV} {A : Nat → Prop} (hs : SB w s L.d mb turn iv down) (hp : PB w p fv wm lm iv2) (hm : MapAt 149 w wm ws) (hws : WsOK ws A) (hl : ws.length ≤ 5000)
    (hD : DiskAt w L D) (hl0 : D.loose.length ≤ 10) (t at_ size : Nat) (ht : t < 1000000) (hat : at_ < 65536) (hsz : size < 4294967296) :
    Calls Tryz.prog 46 #[.pointer (some ⟨s, 0, none⟩), .pointer (some ⟨p, 0, none⟩), topV t at_ size] w (CarryPost w L (carryF D (decW ws) (t % 2) (headB t at_ size))) := by
  have c1 := fun o o' o'' => (((Blk.alloc hp o).alloc o').cellA 1 o'')
  simp only [List.getElem?_cons_zero, List.getElem?_cons_succ] at c1
  unfold topV
  refine (callsIn_wide (n := 0)).1 ?_
  refine callsIn_of_wp_marks Tryz.func46 rfl trivial ?_ rfl
  simp only [Tryz.ntmps46, List.size_toArray, List.length_cons, List.length_nil, Nat.reduceAdd, Nat.reduceSub, Array.replicate_succ, Array.replicate_zero, List.push_toArray, List.append_toArray, List.nil_append, List.cons_append, Array.size_append]
  gi_wp2_with (refine ⟨trivial, rfl, ?_⟩; gi_at_call 72; refine (callsIn_wide.2 (risingB_call (some wm) _)).mono ?_; rintro e w' ⟨rfl, rfl⟩)
  obtain ⟨b0, b1, b2, b3, hW, hsz0⟩ := carryMid w (.pointer (some ⟨s, 0, none⟩)) (.int .i64 t) (.int .i64 at_) (.int .i64 size) (.int .i64 0) wm
  have hmlt := hm.lt
  have hslt := Blk.lt hs
  have hplt := Blk.lt hp
  generalize (((w.alloc (.cells #[.pointer (some ⟨s, 0, none⟩)] 26)).alloc (.cells #[.int .i64 t, .int .i64 at_, .int .i64 size] 75)).alloc (.cells #[.int .i64 0] 27)).alloc (.cells #[.map (some wm)] 95) = W0 at *
  have hmW := hm.same hW
  have hDW := hD.same hW
  have hsW : SB W0 s L.d mb turn iv down := Blk.same hs hW
  refine range_rule (gf := 105) (lb := #[.pointer (some ⟨w.heap.size + 1 + 1 + 1, 0, none⟩)]) rfl (enters_of Tryz.func105 (by kernel_rfl) rfl) (risingB_iter b3 hmW (by omega) (fun x hx => by
      obtain ⟨a, y, rfl, _⟩ := hws.all x hx
      rw [littleL_length]; omega))
    (fun k h => by rcases h with rfl | rfl <;> omega) (fun _ => rfl) (fun k => L.fp k ∨ k = w.heap.size + 1 + 1)
    (fun k h => ⟨by
        rcases h with h | h
        · have := hD.lt h; omega
        · omega, fun h' => by
        rcases h with h | h
        · have hlt := hD.lt h
          rcases h' with h' | h'
          · omega
          · exact hD.fp_map hm h h'
        · rcases h' with h' | h' <;> omega⟩)
    (CarryI L D (w.heap.size + 1 + 1) 0)
    (fun c pre M V => c = .ret ∧ ∃ e, e ≠ 0 ∧ CarryI L D (w.heap.size + 1 + 1) e pre M V)
    CarryI.stab
    (fun c pre M X Y h hc => ⟨h.1, h.2.choose, h.2.choose_spec.1, CarryI.stab pre M X Y h.2.choose_spec.2 hc⟩)
    ⟨.inr rfl, rfl, b2, L, hDW, rfl, rfl, fun k h => .inl h, by simp [decW, Dk.writes]; omega⟩ ?round ?done ?stop
  case round =>
    rintro l pre x suf M V hx hlw hlV hMl hMV hgr hch ⟨hM0, hw0, hb, L', hDV, hLd, hLf, hLM, hLl⟩ K hK
    have hxm : x ∈ ws := hx ▸ by simp
    obtain ⟨a, y, rfl, hAa, ha, hy⟩ := hws.all x hxm
    have hprl : pre.length ≤ 5000 := by
      have := congrArg List.length hx
      simp at this; omega
    have hsn := decW_snoc pre a ha y
    have hapn := writes_append (decW pre) [(a, y)] D
    rw [← hsn, if_pos hw0, Dk.writes, Dk.writes] at hapn
    have hlo := write_loose (D.writes (decW pre)).1 a y
    generalize hDD : (D.writes (decW pre)).1 = D1 at *
    have HDD := Lib.hid hDD
    dsimp only [encKV]
    have hb2' := byte2 ha
    rw [little2_bytes] at *
    have hbt0 := (byteAt a 0).toNat_lt
    have hbt1 := (byteAt a 1).toNat_lt
    generalize byteAt a 0 = y0 at *
    generalize byteAt a 1 = y1 at *
    gi_wp2
    refine hK _ _ (.refl _ _) ?_
    rintro V2 hc2 ⟨_, hw02, hb2, L2, hDV2, hLd2, hLf2, hLM2, hLl2⟩
    rw [HDD.out] at hDV2 hLl2
    have hq0V : Blk V2 w.heap.size 26 [.pointer (some ⟨s, 0, none⟩)] := (b0.chg hch (fun h => h.elim (fun h => by have := hD.lt h; omega) (fun h => by omega))).chg hc2 (by omega)
    have hsV : SB V2 s L.d mb turn iv down := Blk.chg (Blk.chg hsW hch (fun h => h.elim (hD.ne_of hs (by decide) (by decide) (by decide)) (fun h => by omega))) hc2 (by omega)
    have e0 := hq0V.cell 0
    have e1 := hsV.cell 0
    simp only [List.getElem?_cons_zero] at e0 e1
    have hns0 : ¬ L2.fp w.heap.size := hDV2.ne_of hq0V (by decide) (by decide) (by decide)
    have hns : ¬ L2.fp s := hDV2.ne_of hsV (by decide) (by decide) (by decide)
    have hwr0 := fun W (k : Same V2 W) => write_spec (hDV2.same k) a y (by omega) (by omega)
    generalize hrr : D1.write a y = r at *
    obtain ⟨D9, e9⟩ := r
    dsimp only at hapn hlo hwr0
    have hfin : D.writes (decW (pre ++ [([y0, y1], Value.string y)])) = (D9, e9) := by
      rw [hapn]
      by_cases h9 : e9 = 0
      · rw [if_pos h9, h9]
      · rw [if_neg h9]
    have Hfin := Lib.hid hfin
    have hwr : ∀ W, Same V2 W → Calls Tryz.prog 73 #[.pointer (some ⟨L.d, 0, none⟩), .int .i64 a, .string y] W fun e w' => e = .returned (.int .i64 e9) ∧ ∃ L9, DiskAt w' L9 D9 ∧ Chg L2.fp W w' ∧ L9.d = L2.d ∧ L9.fb = L2.fb ∧ ∀ k, L9.fp k → L2.fp k ∨ W.heap.size ≤ k := fun W k => by
      rw [← hLd2]; exact hwr0 W k
    have hll : D9.loose.length ≤ 10 + (pre.length + 1) := by omega
    have hfit : ∀ (V9 : World) (L9 : DL) (q : Blk V9 (w.heap.size + 1 + 1) 27 [.int .i64 e9]), DiskAt V9 L9 D9 → L9.d = L2.d → L9.fb = L2.fb → CarryI L D (w.heap.size + 1 + 1) e9 (pre ++ [([y0, y1], Value.string y)]) (fun k => M k ∨ L9.fp k) V9 := fun V9 L9 q h1 h2 h3 =>
      ⟨.inl hM0, by rw [Hfin.out], q, L9, by rw [Hfin.out]; exact h1, h2.trans hLd2, h3.trans hLf2, fun k h => .inr h, by rw [Hfin.out]; simpa using hll⟩
    have Hfit := Lib.hid hfit
    have hq2 : ¬ L2.fp (w.heap.size + 1 + 1) := hDV2.ne_of hb2 (by decide) (by decide) (by decide)
    clear hwr0 hapn hlo hfin hfit hsn hrr hw02 hw0 c1
    have hV2 := hc2.size
    have hmix : Tryz.prog.follows .mixedOrders = true := by kernel_rfl
    have hks : (S [y0, y1]).size = 2 := rfl
    have hk0 : ∀ h, (S [y0, y1])[0]'h = y0 := fun _ => rfl
    have hk1 : ∀ h, (S [y0, y1])[1]'h = y1 := fun _ => rfl
    have wz0 : IntKind.i64.wrap (y0.toNat : Int) = (y0.toNat : Int) := by rw [IntKind.wrap_i64]; omega
    have wz1 : IntKind.i64.wrap (y1.toNat : Int) = (y1.toNat : Int) := by rw [IntKind.wrap_i64]; omega
    have wz2 : IntKind.i64.wrap ((y1.toNat : Int) * 256) = (y1.toNat : Int) * 256 := by rw [IntKind.wrap_i64]; omega
    gi_wp2
    refine region_round (fun W => W.cell? ⟨w.heap.size, 0, none⟩ = some (.pointer (some ⟨s, 0, none⟩)) ∧ W.cell? ⟨s, 0, none⟩ = some (.pointer (some ⟨L.d, 0, none⟩))) hmix (by kernel_rfl) (by rintro ⟨_, _, h⟩; exact h) ⟨e0, e1⟩ (fun hHeld => ?_)
    refine wpAnyH_take (i := 0) (v := ?v1) rfl (by kernel_rfl) (by kernel_rfl) (by kernel_rfl) (fun _ _ _ h => h) (Or.inl ⟨by rfl, ?h1⟩) (by assumption) ?r1
    case h1 => intro w hSw; obtain ⟨hd0, hd1⟩ := hSw; first | (go_simp; done) | (go_simp; with_reducible rfl)
    try simp only [Act.put, List.setIfInBounds_toArray, List.set_cons_zero, List.set_cons_succ]
    refine wpAnyH_take (i := 1) (v := ?v2) rfl (by kernel_rfl) (by kernel_rfl) (by kernel_rfl) (fun _ _ _ h => h) (Or.inl ⟨by rfl, ?h2⟩) (by assumption) ?r2
    case h2 => intro w hSw; obtain ⟨hd0, hd1⟩ := hSw; first | (go_simp; done) | (go_simp; with_reducible rfl)
    try simp only [Act.put, List.setIfInBounds_toArray, List.set_cons_zero, List.set_cons_succ]
    refine wpAnyH_take (i := 2) (v := ?v3) rfl (by kernel_rfl) (by kernel_rfl) (by kernel_rfl) (fun _ _ _ h => h) (Or.inl ⟨by rfl, ?h3⟩) (by assumption) ?r3
    case h3 => intro w hSw; obtain ⟨hd0, hd1⟩ := hSw; first | (go_simp; done) | (go_simp; with_reducible rfl)
    try simp only [Act.put, List.setIfInBounds_toArray, List.set_cons_zero, List.set_cons_succ]
    refine wpAnyH_take (i := 3) (v := ?v4) rfl (by kernel_rfl) (by kernel_rfl) (by kernel_rfl) (fun _ _ _ h => h) (Or.inl ⟨by rfl, ?h4⟩) (by assumption) ?r4
    case h4 => intro w hSw; obtain ⟨hd0, hd1⟩ := hSw; first | (go_simp; done) | (go_simp; with_reducible rfl)
    try simp only [Act.put, List.setIfInBounds_toArray, List.set_cons_zero, List.set_cons_succ]
    refine wpAnyH_take (i := 4) (v := ?v5) rfl (by kernel_rfl) (by kernel_rfl) (by kernel_rfl) (fun _ _ _ h => h) (Or.inl ⟨by rfl, ?h5⟩) (by assumption) ?r5
    case h5 => intro w hSw; obtain ⟨hd0, hd1⟩ := hSw; first | (go_simp; done) | (go_simp; with_reducible rfl)
    try simp only [Act.put, List.setIfInBounds_toArray, List.set_cons_zero, List.set_cons_succ]
    refine wpAnyH_take (i := 5) (v := ?v6) rfl (by kernel_rfl) (by kernel_rfl) (by kernel_rfl) (fun _ _ _ h => h) (Or.inl ⟨by rfl, ?h6⟩) (by assumption) ?r6
    case h6 => intro w hSw; obtain ⟨hd0, hd1⟩ := hSw; first | (go_simp; done) | (go_simp; with_reducible rfl)
    try simp only [Act.put, List.setIfInBounds_toArray, List.set_cons_zero, List.set_cons_succ]
    refine wpAnyH_take (i := 6) (v := ?v7) rfl (by kernel_rfl) (by kernel_rfl) (by kernel_rfl) (fun _ _ _ h => h) (Or.inl ⟨by rfl, ?h7⟩) (by assumption) ?r7
    case h7 => intro w hSw; obtain ⟨hd0, hd1⟩ := hSw; first | (go_simp; done) | (go_simp; with_reducible rfl)
    try simp only [Act.put, List.setIfInBounds_toArray, List.set_cons_zero, List.set_cons_succ]
    refine wpAnyH_take (i := 7) (v := ?v8) rfl (by kernel_rfl) (by kernel_rfl) (by kernel_rfl) (fun _ _ _ h => h) (Or.inl ⟨by rfl, ?h8⟩) (by assumption) ?r8
    case h8 => intro w hSw; obtain ⟨hd0, hd1⟩ := hSw; first | (go_simp; done) | (go_simp; with_reducible rfl)
    try simp only [Act.put, List.setIfInBounds_toArray, List.set_cons_zero, List.set_cons_succ]
    refine wpAnyH_take (i := 8) (v := ?v9) rfl (by kernel_rfl) (by kernel_rfl) (by kernel_rfl) (fun _ _ _ h => h) (Or.inl ⟨by rfl, ?h9⟩) (by assumption) ?r9
    case h9 => intro w hSw; obtain ⟨hd0, hd1⟩ := hSw; first | (go_simp; done) | (go_simp; with_reducible rfl)
    try simp only [Act.put, List.setIfInBounds_toArray, List.set_cons_zero, List.set_cons_succ]
    refine wpAnyH_take (i := 9) (v := ?v10) rfl (by kernel_rfl) (by kernel_rfl) (by kernel_rfl) (fun _ _ _ h => h) (Or.inl ⟨by rfl, ?h10⟩) (by assumption) ?r10
    case h10 => intro w hSw; obtain ⟨hd0, hd1⟩ := hSw; first | (go_simp; done) | (go_simp; with_reducible rfl)
    try simp only [Act.put, List.setIfInBounds_toArray, List.set_cons_zero, List.set_cons_succ]
    refine wpAnyH_take (i := 10) (v := ?v11) rfl (by kernel_rfl) (by kernel_rfl) (by kernel_rfl) (fun _ _ _ h => h) (Or.inl ⟨by rfl, ?h11⟩) (by assumption) ?r11
    case h11 => intro w hSw; obtain ⟨hd0, hd1⟩ := hSw; first | (go_simp; done) | (go_simp; with_reducible rfl)
    try simp only [Act.put, List.setIfInBounds_toArray, List.set_cons_zero, List.set_cons_succ]
    refine wpAnyH_take (i := 11) (v := ?v12) rfl (by kernel_rfl) (by kernel_rfl) (by kernel_rfl) (fun _ _ _ h => h) (Or.inl ⟨by rfl, ?h12⟩) (by assumption) ?r12
    case h12 => intro w hSw; obtain ⟨hd0, hd1⟩ := hSw; first | (go_simp; done) | (go_simp; with_reducible rfl)
    try simp only [Act.put, List.setIfInBounds_toArray, List.set_cons_zero, List.set_cons_succ]
    refine wpAnyH_take (i := 12) (v := ?v13) rfl (by kernel_rfl) (by kernel_rfl) (by kernel_rfl) (fun _ _ _ h => h) (Or.inl ⟨by rfl, ?h13⟩) (by assumption) ?r13
    case h13 => intro w hSw; obtain ⟨hd0, hd1⟩ := hSw; first | (go_simp; done) | (go_simp; with_reducible rfl)
    try simp only [Act.put, List.setIfInBounds_toArray, List.set_cons_zero, List.set_cons_succ]
    refine wpAnyH_ready (rs := [13]) (by kernel_rfl) (by simp) ?_
    refine AllReadyH.cons rfl (fun K hK => ?_) AllReadyH.nil
    go_simp
    refine (hwr _ (Chg.refl _ V2).drew).mono ?_; rintro x w1 ⟨rfl, L9, hD9, k9, hd9, hfb9, hfp9⟩
    refine hK.out _ _ (⟨cell_chg k9 hHeld.1 hns0, cell_chg k9 hHeld.2 hns⟩) (fun hHeld => ?_)
    clear hK K
    try simp only [Act.put, List.setIfInBounds_toArray, List.set_cons_zero, List.set_cons_succ]
    refine wpAnyH_take (i := 14) (v := ?v14) rfl (by kernel_rfl) (by kernel_rfl) (by kernel_rfl) (fun _ _ _ h => h) (Or.inl ⟨by rfl, ?h14⟩) (by assumption) ?r14
    case h14 => intro w hSw; obtain ⟨hd0, hd1⟩ := hSw; first | (go_simp; done) | (go_simp; with_reducible rfl)
    try simp only [Act.put, List.setIfInBounds_toArray, List.set_cons_zero, List.set_cons_succ]
    refine wpAnyH_done (by kernel_rfl) ?_ _
    clear wz0 wz1 wz2 hb2' hks hk0 hk1
    have kM : Chg M V2 w1 := (Chg.after_same ((Chg.refl _ V2).drew) k9).mono (fun k _ h => hLM2 k h)
    have hgr9 : Grew M V2 (fun k => M k ∨ L9.fp k) w1 := fun k h => h.elim .inl (fun h => (hfp9 k h).imp (hLM2 k) (fun h' => ⟨h', hD9.lt h⟩))
    have hb9 := hb2.chg (Chg.after_same ((Chg.refl (fun _ => False) V2).drew) k9) hq2
    by_cases h9 : e9 = 0
    · subst h9
      gi_wp2
      exact ⟨_, hgr9, kM, Hfit.out w1 L9 hb9 hD9 hd9 hfb9⟩
    · have hne : (e9 != 0) = true := by simpa using h9
      have heq : (e9 == 0) = false := by simpa using h9
      have f9 := hb9.frozen 0
      have g9 := hb9.cell 0
      simp only [List.getElem?_cons_zero] at g9
      have hb10 := hb9.setCell 0 (.int .i64 e9)
      have hD10 := hD9.chg (Chg.set1 w1 (w.heap.size + 1 + 1) 0 (.int .i64 e9)) (fun b hb e => by
        subst e
        rcases hfp9 _ hb with h | h
        · exact hq2 h
        · have := hb2.lt; have h2 : V2.heap.size ≤ w.heap.size + 1 + 1 := h; omega)
      gi_wp2
      exact ⟨_, fun k h => (hgr9 k h).imp id (fun h => ⟨h.1, by simpa using h.2⟩), kM.setCell (p := ⟨w.heap.size + 1 + 1, 0, none⟩) (fun _ => hM0) _, rfl, e9, h9, Hfit.out _ L9 hb10 hD10 hd9 hfb9⟩
  case done =>
    rintro DD M V hD1 hK1 hMD hgr hch ⟨hM0, hw0, hb, L1, hDV, hLd, hLf, hLM, hLl⟩
    have hcf : carryF D (decW ws) (t % 2) (headB t at_ size) = if (D.writes (decW ws)).1.flush.2 = 0 then
        (if ((D.writes (decW ws)).1.flush.1.write (t % 2 : Nat) (headB t at_ size)).2 = 0 then ((D.writes (decW ws)).1.flush.1.write (t % 2 : Nat) (headB t at_ size)).1.flush else (D.writes (decW ws)).1.flush.1.write (t % 2 : Nat) (headB t at_ size))
        else (D.writes (decW ws)).1.flush := by
      unfold carryF
      rw [if_pos hw0]
    generalize (D.writes (decW ws)).1 = D1 at *
    have hfl := fun W (k : Same V W) => flush_spec (hDV.same k) (by omega)
    have hfl0 : D1.flush.2 = 0 → D1.flush.1.loose = [] := by
      unfold Dk.flush
      split
      · intro h; cases h
      · intro _; rfl
    generalize hr2 : D1.flush = r2 at *
    obtain ⟨D2, e2⟩ := r2
    dsimp only at hcf hfl hfl0
    have hq0V : Blk V w.heap.size 26 [.pointer (some ⟨s, 0, none⟩)] := b0.chg hch (fun h => h.elim (fun h => by have := hD.lt h; omega) (fun h => by omega))
    have hq1V : Blk V (w.heap.size + 1) 75 [.int .i64 t, .int .i64 at_, .int .i64 size] := b1.chg hch (fun h => h.elim (fun h => by have := hD.lt h; omega) (fun h => by omega))
    have hsV : SB V s L.d mb turn iv down := Blk.chg hsW hch (fun h => h.elim (hD.ne_of hs (by decide) (by decide) (by decide)) (fun h => by omega))
    have e0 := hq0V.cell 0
    have e1 := hsV.cell 0
    simp only [List.getElem?_cons_zero] at e0 e1
    have hWs := hch.size
    have hL1 : ∀ k, L1.fp k → L.fp k ∨ w.heap.size ≤ k := fun k h => (hgr k (hLM k h)).elim (fun h => h.imp id (fun h => by omega)) (fun h => .inr (by omega))
    have kwV : Chg L.fp w V := hW.trans' hch (U := L.fp) (fun _ _ h => h.elim) (fun j hj h => h.elim id (fun h => by omega))
    have hfl1 : Calls Tryz.prog 26 #[.pointer (some ⟨L.d, 0, none⟩)] V (DPost V L1 D2 (.int .i64 e2)) := by rw [← hLd]; exact hfl V (.refl _ _)
    have hDq2 : DD ≠ w.heap.size + 1 + 1 := by omega
    have hDL1 : ¬ L1.fp DD := fun h => hMD (hLM _ h)
    have hn0 : ¬ L1.fp w.heap.size := hDV.ne_of hq0V (by decide) (by decide) (by decide)
    have hn1 : ¬ L1.fp (w.heap.size + 1) := hDV.ne_of hq1V (by decide) (by decide) (by decide)
    have hn2 : ¬ L1.fp (w.heap.size + 1 + 1) := hDV.ne_of hb (by decide) (by decide) (by decide)
    have hns : ¬ L1.fp s := hDV.ne_of hsV (by decide) (by decide) (by decide)
    -- an end: a number in the result's cell
    have fin : ∀ (W4 : World) (L4 : DL) (D4 : Dk) (e4 : Int), DiskAt W4 L4 D4 → L4.d = L.d → L4.fb = L.fb → (∀ k, L4.fp k → L.fp k ∨ w.heap.size ≤ k) → Chg L.fp w W4 → Blk W4 (w.heap.size + 1 + 1) 27 [.int .i64 e4] → W4.heap[DD]? = some (.deferred (some [])) →
        carryF D (decW ws) (t % 2) (headB t at_ size) = (D4, e4) → (∀ W', Chg (fun k => k = DD) W4 W' → W'.cell? ⟨w.heap.size + 1 + 1, 0, none⟩ = some (.int .i64 e4)) ∧ ∀ W', Chg (fun k => k = DD) W4 W' → CarryPost w L (carryF D (decW ws) (t % 2) (headB t at_ size)) (.returned (.int .i64 e4)) W' := by
      intro W4 L4 D4 e4 h1 h2 h3 h4 h5 h6 h7 h8
      have hnD : ∀ k, L4.fp k → k ≠ DD := fun k hk e => by
        subst e
        rcases hk with hk | hk | hk
        · have := h1.blk.at_.symm.trans (hk ▸ h7); cases this
        · have := h1.fblk.at_.symm.trans (hk ▸ h7); cases this
        · obtain ⟨c, hc⟩ := own_type h1.row hk
          have := hc.symm.trans h7; cases this
      refine ⟨fun W' hc => by have := (h6.chg hc (by omega)).cell 0; simpa using this, fun W' hc => ?_⟩
      rw [h8]
      exact ⟨rfl, ⟨L4, h1.chg hc (fun b hb => hnD b hb), h2, h3, h4⟩, h5.trans' hc (fun _ _ h => h) (fun j hj e => by omega)⟩
    have Fin := Lib.hid fin
    clear fin c1
    by_cases he2 : e2 = 0
    · subst he2
      rw [if_pos rfl] at hcf
      have hlo2 := hfl0 rfl
      have hlo3 := write_loose D2 (t % 2 : Nat) (headB t at_ size)
      generalize hr3 : D2.write (t % 2 : Nat) (headB t at_ size) = r3 at *
      obtain ⟨D3, e3⟩ := r3
      dsimp only at hcf hlo3
      have hto := fun W => toptext_spec (w := W) t at_ size (by omega) (by omega) (by omega)
      unfold topV at hto
      have hhs : (headB t at_ size).size = 64 := sealedL_size _ (by simp [headL, littleL_length, mark])
      have hmod2 : (t : Int).tmod 2 = ((t % 2 : Nat) : Int) := by rw [Int.tmod_eq_emod_of_nonneg (by omega)]; omega
      have hmod1 : (t : Int) % 2 = ((t % 2 : Nat) : Int) := by omega
      have hwr3 : ∀ W2 L2, DiskAt W2 L2 D2 → L2.d = L1.d → ∀ W, Same W2 W → Calls Tryz.prog 73 #[.pointer (some ⟨L.d, 0, none⟩), .int .i64 ((t % 2 : Nat) : Int), .string (headB t at_ size)] W fun e w' => e = .returned (.int .i64 e3) ∧ ∃ L9, DiskAt w' L9 D3 ∧ Chg L2.fp W w' ∧ L9.d = L2.d ∧ L9.fb = L2.fb ∧ ∀ k, L9.fp k → L2.fp k ∨ W.heap.size ≤ k := fun W2 L2 h hd W k => by
        have h9 := write_spec (h.same k) ((t % 2 : Nat) : Int) (headB t at_ size) (by omega) (by rw [hlo2]; simp)
        rw [hr3] at h9
        rw [← hLd, ← hd]
        exact h9
      have hr2lt : t % 2 < 2 := Nat.mod_lt _ (by omega)
      have Hr3 := Lib.hid hr3
      have Hcf := Lib.hid hcf
      have Hlo := Lib.hid hlo2
      have Hlo3 := Lib.hid hlo3
      have Hmod1 := Lib.hid hmod1
      have Hmod2 := Lib.hid hmod2
      clear hr3 hcf hlo2 hlo3 hmod1 hmod2
      generalize headB t at_ size = hbB at *
      gi_wp2_with (refine ⟨trivial, rfl, ?_⟩; gi_at_call 26; refine (callsIn_wide.2 hfl1).mono ?_; rintro e W2 ⟨rfl, L2, hD2, k2, hd2, hf2, hfp2⟩)
      have hb2 := hb.chg k2 hn2
      have p0 := (hq0V.chg k2 hn0).cell 0
      have p1 := (Blk.chg hsV k2 hns : SB W2 s L.d mb turn iv down).cell 0
      obtain ⟨p2, p3, p4, _⟩ := (hq1V.chg k2 hn1).st3
      simp only [List.getElem?_cons_zero] at p0 p1
      have hL2 : ∀ k, L2.fp k → L.fp k ∨ w.heap.size ≤ k := fun k hk => (hfp2 k hk).elim (hL1 k) (fun h => .inr (by omega))
      have kw2 : Chg L.fp w W2 := kwV.trans' k2 (fun _ _ h => h) (fun j hj h => (hL1 j h).elim id (fun h => by omega))
      have hVs := k2.size
      have hm0 : ¬ L2.fp w.heap.size := fun h => (hfp2 _ h).elim hn0 (fun h => by omega)
      have hm1 : ¬ L2.fp (w.heap.size + 1) := fun h => (hfp2 _ h).elim hn1 (fun h => by omega)
      have hm2 : ¬ L2.fp (w.heap.size + 1 + 1) := fun h => (hfp2 _ h).elim hn2 (fun h => by omega)
      have hms : ¬ L2.fp s := fun h => (hfp2 _ h).elim hns (fun h => by omega)
      have hDL2 : ¬ L2.fp DD := fun h => (hfp2 _ h).elim hDL1 (fun h => by have := lt_of_at hK1; omega)
      have hK2 := k2.at_ hK1 hDL1
      have hwr4 := hwr3 W2 L2 hD2 hd2
      have hmod2 := Hmod2.out
      have hmod1 := Hmod1.out
      clear hwr3
      generalize t % 2 = r0 at *
      refine wpIn_wide.2 ?_
      go_region_held3 (fun w' => w'.cell? ⟨w.heap.size, 0, none⟩ = some (.pointer (some ⟨s, 0, none⟩)) ∧ w'.cell? ⟨s, 0, none⟩ = some (.pointer (some ⟨L.d, 0, none⟩)) ∧ w'.cell? ⟨w.heap.size + 1, 0, none⟩ = some (.int .i64 t) ∧ w'.cell? ⟨w.heap.size + 1, 1, none⟩ = some (.int .i64 at_) ∧ w'.cell? ⟨w.heap.size + 1, 2, none⟩ = some (.int .i64 size))
        (first | exact ⟨p0, p1, p2, p3, p4⟩ | exact ⟨cell_chg k4 n0 hm0, cell_chg k4 n1 hms, cell_chg k4 n2 hm1, cell_chg k4 n3 hm1, cell_chg k4 n4 hm1⟩ | exact ⟨n0, n1, n2, n3, n4⟩)
        (first
          | (go_at_call 74; refine (hto _).mono ?_; rintro e W3 ⟨rfl, k3⟩
             have n0 := cell_chg k3 p0 (fun h => h)
             have n1 := cell_chg k3 p1 (fun h => h)
             have n2 := cell_chg k3 p2 (fun h => h)
             have n3 := cell_chg k3 p3 (fun h => h)
             have n4 := cell_chg k3 p4 (fun h => h))
          | (go_at_call 73; refine (hwr4 _ ((Chg.refl _ W2).drew.trans k3)).mono ?_; rintro e W4 ⟨rfl, L4, hD4, k4, hd4, hf4, hfp4⟩))
      clear hmod1 hmod2
      have k24 : Chg L2.fp W2 W4 := Chg.after_same ((Chg.refl _ W2).drew.trans k3) k4
      have hb4 := hb2.chg k24 hm2
      have g2 := hb4.frozen 0
      have g3 := hb4.cell 0
      simp only [List.getElem?_cons_zero] at g3
      have hK4 := k24.at_ hK2 hDL2
      have hs24 := k3.size
      simp only [World.size_drew] at hs24
      have hL4 : ∀ k, L4.fp k → L.fp k ∨ w.heap.size ≤ k := fun k hk => (hfp4 k hk).elim (hL2 k) (fun h => .inr (by omega))
      have kw4 : Chg L.fp w W4 := kw2.trans' k24 (fun _ _ h => h) (fun j hj h => (hL2 j h).elim id (fun h => by omega))
      have hm4 : ¬ L4.fp (w.heap.size + 1 + 1) := fun h => (hfp4 _ h).elim hm2 (fun h => by omega)
      have hd4L : L4.d = L.d := hd4.trans (hd2.trans hLd)
      have hf4L : L4.fb = L.fb := hf4.trans (hf2.trans hLf)
      by_cases he3 : e3 = 0
      · subst he3
        have hcf := Hcf.out
        rw [if_pos rfl] at hcf
        have hlo4 : D3.loose.length ≤ 65536 := by have := Hlo3.out.1; rw [Hlo.out] at this; simp at this; omega
        have hfl4 := flush_spec hD4 hlo4
        generalize hr4 : D3.flush = r4 at *
        obtain ⟨D5, e5⟩ := r4
        dsimp only at hfl4
        rw [hd4L] at hfl4
        have Hcf2 := Lib.hid hcf
        clear hcf hr4 hlo4 Hcf
        have u0 := cell_chg k4 n0 hm0
        have u1 := cell_chg k4 n1 hms
        have hDL4 : ¬ L4.fp DD := fun h => (hfp4 _ h).elim hDL2 (fun h => by have := lt_of_at hK2; omega)
        gi_wp2_with (refine ⟨trivial, rfl, ?_⟩; gi_at_call 26; refine (callsIn_wide.2 hfl4).mono ?_; rintro e W5 ⟨rfl, L5, hD5, k5, hd5, hf5, hfp5⟩; have hb5 := hb4.chg k5 hm4; have i2 := hb5.frozen 0; have i3 := hb5.cell 0; simp only [List.getElem?_cons_zero] at i3)
        have hb6 := hb5.setCell 0 (.int .i64 e5)
        have kS := Chg.set1 W5 (w.heap.size + 1 + 1) 0 (.int .i64 e5)
        have hs4 := k24.size
        have hm5 : ∀ b, L5.fp b → b ≠ w.heap.size + 1 + 1 := fun b hbb e => (hfp5 b hbb).elim (fun h => hm4 (e ▸ h)) (fun h => by have := hb4.lt; omega)
        obtain ⟨f1, f2⟩ := Fin.out (W5.setCell ⟨w.heap.size + 1 + 1, 0, none⟩ (.int .i64 e5)) L5 D5 e5 (hD5.chg kS hm5) (hd5.trans hd4L) (hf5.trans hf4L) (fun k hk => (hfp5 k hk).elim (hL4 k) (fun h => .inr (by omega)))
          ((kw4.trans' k5 (fun _ _ h => h) (fun j hj h => (hL4 j h).elim id (fun h => by omega))).trans' kS (fun _ _ h => h) (fun j hj e => by omega)) hb6 (kS.at_ (k5.at_ hK4 hDL4) hDq2) Hcf2.out
        exact leave_loop (v := .int .i64 e5) (.inr rfl) (kS.at_ (k5.at_ hK4 hDL4) hDq2) (fun W' hc => by simp [results, Tryz.f46, go_sem, f1 W' hc]) (fun W' hc => f2 W' hc)
      · have hne : (e3 != 0) = true := by simpa using he3
        have heq : (e3 == 0) = false := by simpa using he3
        have hcf := Hcf.out
        rw [if_neg he3] at hcf
        have Hcf2 := Lib.hid hcf
        clear hcf Hcf
        gi_wp2
        have hb6 := hb4.setCell 0 (.int .i64 e3)
        have kS := Chg.set1 W4 (w.heap.size + 1 + 1) 0 (.int .i64 e3)
        have hm5 : ∀ b, L4.fp b → b ≠ w.heap.size + 1 + 1 := fun b hbb e => hm4 (e ▸ hbb)
        obtain ⟨f1, f2⟩ := Fin.out (W4.setCell ⟨w.heap.size + 1 + 1, 0, none⟩ (.int .i64 e3)) L4 D3 e3 (hD4.chg kS hm5) hd4L hf4L hL4
          (kw4.trans' kS (fun _ _ h => h) (fun j hj e => by omega)) hb6 (kS.at_ hK4 hDq2) Hcf2.out
        exact leave_loop (v := .int .i64 e3) (.inr rfl) (kS.at_ hK4 hDq2) (fun W' hc => by simp [results, Tryz.f46, go_sem, f1 W' hc]) (fun W' hc => f2 W' hc)
    · have hne : (e2 != 0) = true := by simpa using he2
      have heq : (e2 == 0) = false := by simpa using he2
      rw [if_neg he2] at hcf
      have Hcf := Lib.hid hcf
      clear hcf
      gi_wp2_with (refine ⟨trivial, rfl, ?_⟩; gi_at_call 26; refine (callsIn_wide.2 hfl1).mono ?_; rintro e W2 ⟨rfl, L2, hD2, k2, hd2, hf2, hfp2⟩; have hb2 := hb.chg k2 hn2; have g2 := hb2.frozen 0; have g3 := hb2.cell 0; simp only [List.getElem?_cons_zero] at g3)
      have hb3 := hb2.setCell 0 (.int .i64 e2)
      have kS := Chg.set1 W2 (w.heap.size + 1 + 1) 0 (.int .i64 e2)
      have hn2' : ∀ b, L2.fp b → b ≠ w.heap.size + 1 + 1 := fun b hbb e => (hfp2 b hbb).elim (fun h => hn2 (e ▸ h)) (fun h => by have := hb.lt; omega)
      obtain ⟨f1, f2⟩ := Fin.out (W2.setCell ⟨w.heap.size + 1 + 1, 0, none⟩ (.int .i64 e2)) L2 D2 e2 (hD2.chg kS hn2') (hd2.trans hLd) (hf2.trans hLf) (fun k hk => (hfp2 k hk).elim (hL1 k) (fun h => .inr (by omega)))
        ((kwV.trans' k2 (fun _ _ h => h) (fun j hj h => (hL1 j h).elim id (fun h => by omega))).trans' kS (fun _ _ h => h) (fun j hj e => by omega)) hb3 (kS.at_ (k2.at_ hK1 hDL1) hDq2) Hcf.out
      exact leave_loop (v := .int .i64 e2) (.inr rfl) (kS.at_ (k2.at_ hK1 hDL1) hDq2) (fun W' hc => by simp [results, Tryz.f46, go_sem, f1 W' hc]) (fun W' hc => f2 W' hc)
  case stop =>
    rintro DD c pre M V hD1 hK1 hMD hgr hch hpre ⟨rfl, e, he, hM0, hw0, hb, L1, hDV, hLd, hLf, hLM, hLl⟩
    have hcf : carryF D (decW ws) (t % 2) (headB t at_ size) = D.writes (decW pre) := by
      obtain ⟨suf, hsuf⟩ := hpre
      have hap : D.writes (decW ws) = D.writes (decW pre) := by
        rw [← hsuf, show decW (pre ++ suf) = decW pre ++ decW suf by simp [decW], writes_append, if_neg (by rw [hw0]; exact he)]
      unfold carryF
      rw [hap, if_neg (by rw [hw0]; exact he)]
    have hL1 : ∀ k, L1.fp k → L.fp k ∨ w.heap.size ≤ k := fun k h => (hgr k (hLM k h)).elim (fun h => h.imp id (fun h => by omega)) (fun h => .inr (by omega))
    have kwV : Chg L.fp w V := hW.trans' hch (U := L.fp) (fun _ _ h => h.elim) (fun j hj h => h.elim id (fun h => by omega))
    gi_wp2
    refine leave_loop (v := .int .i64 e) (.inr rfl) hK1 (fun W' hc => ?_) (fun W' hc => ?_)
    · have e4 := (hb.chg hc (fun e => hMD (e ▸ hM0))).cell 0
      simp only [List.getElem?_cons_zero] at e4
      simp [results, Tryz.f46, go_sem, e4]
    · rw [hcf]
      exact ⟨by rw [hw0], ⟨L1, hDV.chg hc (fun b hb e => hMD (e ▸ hLM b hb)), hLd, hLf, hL1⟩, kwV.trans' hc (fun _ _ h => h) (fun j hj e => by omega)⟩
end Go.Proofs.Obj

/- S25 -/
namespace Go.Proofs.Obj
open Go Go.RowKit Go.Shelf

/-- A disk, and a store on it, as they live in memory. -/
structure Live (w : World) (L : DL) (s : Nat) (D : Dk) (turn : Nat) (idx : List Nat) (tab : Tab) : Prop where
  disk : DiskAt w L D
  up : D.down = false
  loose : D.loose = []
  good : Good D.sector D.firm.length turn idx tab
  small : ∀ x ∈ tab, x.2.size ≤ 131072 ∧ x.1.length ≤ 300
  store : StoreAt w s L.d turn idx tab false

/-- What comes of a commit. -/
def CommitEnd (D : Dk) (turn : Nat) (idx : List Nat) (tab : Tab) (l : List PutM) (D' : Dk) (c : Int) (st : Nat → List Nat → Tab → Bool → Prop) : Prop :=
  (mayF l = false ∧ c = 1 ∧ D' = D ∧ st turn idx tab false) ∨
  (mayF l = true ∧ planned D.firm.length idx tab l = none ∧ c = 6 ∧ D' = D ∧ st turn idx tab false) ∨
  (mayF l = true ∧ ∃ pl, planned D.firm.length idx tab l = some pl ∧ (D', c) = carryF D (decW pl.ws) ((turn + 1) % 2) (headB (turn + 1) (pl.idx.headD 0) (rowBytes pl.tab).length) ∧
    ((c = 0 ∧ st (turn + 1) pl.idx pl.tab false) ∨ (c ≠ 0 ∧ st turn idx tab true)))
def CommitPost (w : World) (L : DL) (s : Nat) (D : Dk) (turn : Nat) (idx : List Nat) (tab : Tab) (l : List PutM) (e : Ending) (w' : World) : Prop :=
  ∃ (L' : DL) (D' : Dk) (c : Int), e = .returned (.int .i64 c) ∧ DiskAt w' L' D' ∧ L'.d = L.d ∧ L'.fb = L.fb ∧ (∀ k, L'.fp k → L.fp k ∨ w.heap.size ≤ k) ∧ Chg (fun k => k = s ∨ L.fp k) w w' ∧
    CommitEnd D turn idx tab l D' c (fun turn idx tab down => StoreAt w' s L.d turn idx tab down)

theorem WsOK.len {ws : KV} {A : Nat → Prop} {n : Nat} (h : WsOK ws A) (hA : ∀ a, A a → a < n) : ws.length ≤ n := by
  have hnd : (ws.map fun x => numL x.1).Nodup := by
    have h1 := h.rising.nodup
    have h2 : (ws.map fun x => numL x.1) = (ws.map (·.1)).map numL := by rw [List.map_map]; rfl
    rw [h2]
    refine List.Pairwise.map _ ?_ (List.Pairwise.and_mem.1 h1)
    rintro a b ⟨ha, hb, hne⟩ e
    obtain ⟨x, hx, rfl⟩ := List.mem_map.1 ha
    obtain ⟨y, hy, rfl⟩ := List.mem_map.1 hb
    obtain ⟨a1, s1, rfl, _, h1, _⟩ := h.all x hx
    obtain ⟨a2, s2, rfl, _, h2, _⟩ := h.all y hy
    dsimp only at e hne
    rw [num_little2 h1, num_little2 h2] at e
    exact hne (by rw [e])
  have := le_of_nodup_range (n := n) hnd (fun a ha => by
    obtain ⟨x, hx, rfl⟩ := List.mem_map.1 ha
    obtain ⟨a1, s1, rfl, hA1, h1, _⟩ := h.all x hx
    dsimp only
    rw [num_little2 h1]
    exact hA a1 hA1)
  simpa using this

theorem planned_facts {rd : Nat → ByteArray} {n turn : Nat} {idx : List Nat} {tab : Tab} (hG : Good rd n turn idx tab) (hs : ∀ x ∈ tab, x.2.size ≤ 131072 ∧ x.1.length ≤ 300) {l : List PutM} (hm : mayF l = true) (hl : l.length ≤ 64) {p : Plan} (hp : planned n idx tab l = some p) :
    WsOK p.ws (fun a => 2 ≤ a ∧ a < n ∧ a ∉ idx ++ allSecs tab) ∧ (∀ x ∈ p.tab, x.2.size ≤ 131072 ∧ x.1.length ≤ 300) ∧ p.ws.length ≤ 4096 ∧ p.idx.headD 0 < 65536 ∧ (rowBytes p.tab).length ≤ 600000 := by
  have hw : WsOK p.ws (fun a => 2 ≤ a ∧ a < n ∧ a ∉ idx ++ allSecs tab) ∧ (∀ x ∈ p.tab, x.2.size ≤ 131072 ∧ x.1.length ≤ 300) ∧ (∀ a ∈ p.idx, a < n) ∧ (rowBytes p.tab).length ≤ 600000 := by
    unfold planned at hp
    split at hp
    · cases hp
    · rename_i F ws t hgo
      split at hp
      · rename_i hroom
        obtain rfl := Option.some.inj hp
        have inv := planGo_inv hG.n1 l [] (PlanInv.start hG hs) hm hgo
        have hrl := planGo_row l [] hm hgo
        have := hG.rowLen
        dsimp only at inv hrl ⊢
        have hP : ∀ a ∈ F.take (manyOf (rowBytes t).length 58), 2 ≤ a ∧ a < n ∧ a ∉ idx ++ allSecs tab := fun a ha => inv.free a (List.mem_of_mem_take ha)
        have hn1 := hG.n1
        exact ⟨WsOK.row _ _ (inv.wsok.mono fun a ha => ⟨ha.1, ha.2.1, ha.2.2.1⟩) (fun a ha => ⟨hP a ha, by have := (hP a ha).2.1; omega⟩), inv.small, fun a ha => (hP a ha).2.1, by omega⟩
      · cases hp
  obtain ⟨h1, h2, h3, h4⟩ := hw
  have hn1 := hG.n1
  refine ⟨h1, h2, Nat.le_trans (h1.len (fun a ha => ha.2.1)) hn1, ?_, h4⟩
  cases hi : p.idx with
  | nil => simp
  | cons a r => have := h3 a (by rw [hi]; simp); simp; omega

theorem keep3d {W : World} {s i p q : Nat} {v a b c : Value} (hp : ¬ p = s) (hq : ¬ q = s) (h : W.drew.cell? ⟨p, 2, none⟩ = some a ∧ W.drew.cell? ⟨p, 3, none⟩ = some b ∧ W.drew.cell? ⟨q, 0, none⟩ = some c) :
    (W.setCell ⟨s, i, none⟩ v).drew.cell? ⟨p, 2, none⟩ = some a ∧ (W.setCell ⟨s, i, none⟩ v).drew.cell? ⟨p, 3, none⟩ = some b ∧ (W.setCell ⟨s, i, none⟩ v).drew.cell? ⟨q, 0, none⟩ = some c :=
  ⟨cell_chg (Chg.set1 W s i v) (S := fun k => k = s) (w := W) h.1 hp, cell_chg (Chg.set1 W s i v) (S := fun k => k = s) (w := W) h.2.1 hp, cell_chg (Chg.set1 W s i v) (S := fun k => k = s) (w := W) h.2.2 hq⟩

set_option maxRecDepth 100000 in
set_option maxHeartbeats 4000000 in
theorem commit_spec {w : World} {s turn : Nat} {idx : List Nat} {tab : Tab} {L : DL} {D : Dk} {v : Value} {l : List PutM} (hL : Live w L s D turn idx tab) (hv : PutsAt w v l) (hll : l.length ≤ 64) (hsz : ∀ p ∈ l, p.key.length ≤ 4294967296 ∧ p.blob.length ≤ 4294967296) (ht : turn + 1 < 1000000) :
    Calls Tryz.prog 21 #[.pointer (some ⟨s, 0, none⟩), v] w (CommitPost w L s D turn idx tab l) := by
  obtain ⟨mb, iv0, kv, hsb, hsec0, hm, htab⟩ := hL.store
  have hst := hL.store
  have hg := gate_spec hsb
  simp only [Bool.false_eq_true, if_false] at hg
  have hmy := may_spec hv (by omega) hsz
  have hsame : ∀ (c : Int) w', Same w w' → CommitEnd D turn idx tab l D c (fun turn idx tab down => StoreAt w' s L.d turn idx tab down) → CommitPost w L s D turn idx tab l (.returned (.int .i64 c)) w' := fun c w' k h =>
    ⟨L, D, c, rfl, hL.disk.same k, rfl, rfl, fun k h => .inl h, Chg.of_same k, h⟩
  have Hsame := Lib.hid hsame
  clear hsame
  cases hmay : mayF l
  · have Hmay := Lib.hid hmay
    rw [hmay] at hmy
    clear hmay
    go_enter Tryz.func21, Tryz.ntmps21
    go_wp2_with (first
      | (go_at_call 43; refine hg.mono ?_; rintro e w1 ⟨rfl, rfl⟩)
      | (go_at_call 44; refine hmy.mono ?_; rintro e w2 ⟨rfl, k2⟩))
    go_ret
    exact Hsame.out 1 w2 k2 (.inl ⟨Hmay.out, rfl, rfl, hst.same k2⟩)
  · have Hmay := Lib.hid hmay
    rw [hmay] at hmy
    have hpl := fun W (k : Same w W) => planned_spec (n := D.firm.length) hL.good (hst.same k) (hL.disk.same k) rfl (v := v) (l := l) (by
      obtain ⟨A, cap, rfl, hr⟩ := hv
      exact ⟨A, cap, rfl, hr.same k⟩) hmay hll hL.small
    cases hpd : planned D.firm.length idx tab l with
    | none =>
      have hpl2 : ∀ W, Same w W → Calls Tryz.prog 45 #[.pointer (some ⟨s, 0, none⟩), v] W fun e w' => ∃ (a : Option Addr) (x0 x1 x2 : Int), e = .returned (.tuple #[.pointer a, .agg #[.int .i64 x0, .int .i64 x1, .int .i64 x2], .bool false]) ∧ Same W w' := fun W k => (hpl W k).mono fun e w' h => by
        unfold PlannedPost at h
        rw [hpd] at h
        exact h
      have Hpd := Lib.hid hpd
      clear hmay hpl hpd
      go_enter Tryz.func21, Tryz.ntmps21
      go_wp2_with (first
        | (go_at_call 43; refine hg.mono ?_; rintro e w1 ⟨rfl, rfl⟩)
        | (go_at_call 44; refine hmy.mono ?_; rintro e w2 ⟨rfl, k2⟩)
        | (go_at_call 45; refine (hpl2 _ k2).mono ?_; rintro e w3 ⟨a, x0, x1, x2, rfl, k3⟩))
      go_ret
      exact Hsame.out 6 _ ((k2.trans k3).alloc _) (.inr (.inl ⟨Hmay.out, Hpd.out, rfl, rfl, hst.same ((k2.trans k3).alloc _)⟩))
    | some pl =>
      obtain ⟨hws, hsm2, hwl, hat, hrl⟩ := planned_facts hL.good hL.small hmay hll hpd
      have hpl2 : ∀ W, Same w W → Calls Tryz.prog 45 #[.pointer (some ⟨s, 0, none⟩), v] W fun e w' => ∃ p wm lm fv A iv kv, e = .returned (.tuple #[.pointer (some ⟨p, 0, none⟩), .agg #[.int .i64 ((turn : Int) + 1), .int .i64 (pl.idx.headD 0 : Nat), .int .i64 (rowBytes pl.tab).length], .bool true]) ∧
          PB w' p fv wm lm (.slice A pl.idx.length iv) ∧ Secs w' (.slice A pl.idx.length iv) pl.idx ∧ MapAt 149 w' wm pl.ws ∧ MapAt 9 w' lm kv ∧ TabAt w' kv pl.tab ∧ Same W w' := fun W k => (hpl W k).mono fun e w' h => by
        unfold PlannedPost at h
        rw [hpd] at h
        obtain ⟨p, wm, lm, fv, iv, kv, rfl, h1, ⟨A, cap, rfl, h2⟩, h3, h4, h5, h6⟩ := h
        exact ⟨p, wm, lm, fv, A, cap, kv, rfl, h1, ⟨A, cap, rfl, h2⟩, h3, h4, h5, h6⟩
      have hca : ∀ W p wm lm fv iv2, SB W s L.d mb turn iv0 false → PB W p fv wm lm iv2 → MapAt 149 W wm pl.ws → DiskAt W L D → Calls Tryz.prog 46 #[.pointer (some ⟨s, 0, none⟩), .pointer (some ⟨p, 0, none⟩), .agg #[.int .i64 ((turn : Int) + 1), .int .i64 (pl.idx.headD 0 : Nat), .int .i64 (rowBytes pl.tab).length]] W
          (CarryPost W L (carryF D (decW pl.ws) ((turn + 1) % 2) (headB (turn + 1) (pl.idx.headD 0) (rowBytes pl.tab).length))) := fun W p wm lm fv iv2 hs hp hm hD => carry_spec hs hp hm hws (by omega) hD (by rw [hL.loose]; simp) (turn + 1) (pl.idx.headD 0) (rowBytes pl.tab).length (by omega) hat (by omega)
      have Hpd := Lib.hid hpd
      have hdisk := hL.disk
      have hslt := Blk.lt hsb
      have hend : ∀ (L' : DL) (W : World), DAt w W L (carryF D (decW pl.ws) ((turn + 1) % 2) (headB (turn + 1) (pl.idx.headD 0) (rowBytes pl.tab).length)).1 → Chg (fun k => k = s ∨ L.fp k) w W →
          (((carryF D (decW pl.ws) ((turn + 1) % 2) (headB (turn + 1) (pl.idx.headD 0) (rowBytes pl.tab).length)).2 = 0 ∧ StoreAt W s L.d ((turn + 1 : Nat) : Int) pl.idx pl.tab false) ∨ ((carryF D (decW pl.ws) ((turn + 1) % 2) (headB (turn + 1) (pl.idx.headD 0) (rowBytes pl.tab).length)).2 ≠ 0 ∧ StoreAt W s L.d turn idx tab true)) →
          CommitPost w L s D turn idx tab l (.returned (.int .i64 (carryF D (decW pl.ws) ((turn + 1) % 2) (headB (turn + 1) (pl.idx.headD 0) (rowBytes pl.tab).length)).2)) W := by
        rintro _ W ⟨L', h1, h2, h3, h4⟩ h5 h6
        exact ⟨L', _, _, rfl, h1, h2, h3, h4, h5, .inr (.inr ⟨Hmay.out, pl, Hpd.out, rfl, h6⟩)⟩
      clear hpl hpd hmay
      generalize carryF D (decW pl.ws) ((turn + 1) % 2) (headB (turn + 1) (pl.idx.headD 0) (rowBytes pl.tab).length) = r at *
      obtain ⟨D9, c9⟩ := r
      dsimp only at hend hca
      have Hend := Lib.hid hend
      clear hend
      generalize pl.idx.headD 0 = at0 at *
      generalize (rowBytes pl.tab).length = rl at *
      have hL3 : ∀ W, DiskAt W L D → Off3 W L.fp := fun W h b c hb hf => h.ne_of hb (by decide) (by decide) (by decide) hf
      by_cases hc9 : c9 = 0
      · subst hc9
        go_enter Tryz.func21, Tryz.ntmps21
        go_wp2_with (first
          | (go_at_call 43; refine hg.mono ?_; rintro e w1 ⟨rfl, rfl⟩)
          | (go_at_call 44; refine hmy.mono ?_; rintro e w2 ⟨rfl, k2⟩)
          | (go_at_call 45; refine (hpl2 _ k2).mono ?_; rintro e w3 ⟨p, wm, lm, fv, A, ivc, kv3, rfl, hp3, hs3, hm3, hl3, ht3, k3⟩)
          | (go_at_call 46
             have kA : Same w (w3.alloc (.cells #[.int .i64 ((turn : Int) + 1), .int .i64 (at0 : Nat), .int .i64 rl] 75)) := (k2.trans k3).alloc _
             refine (hca _ p wm lm fv _ (Blk.same hsb kA) (Blk.alloc hp3 _) (hm3.same ((Chg.refl _ w3).alloc _)) (hdisk.same kA)).mono ?_
             rintro e W4 ⟨rfl, hD4, k4⟩
             have hdA := hdisk.same kA
             have hsA : SB (w3.alloc (.cells #[.int .i64 ((turn : Int) + 1), .int .i64 (at0 : Nat), .int .i64 rl] 75)) s L.d mb turn iv0 false := Blk.same hsb kA
             have hs4 : SB W4 s L.d mb turn iv0 false := Blk.chg hsA k4 (hdA.ne_of hsA (by decide) (by decide) (by decide))
             have q4 := hs4.cell 4
             have f4 := hs4.frozen 4
             simp only [List.getElem?_cons_zero, List.getElem?_cons_succ] at q4))
        have hpA : PB (w3.alloc (.cells #[.int .i64 ((turn : Int) + 1), .int .i64 (at0 : Nat), .int .i64 rl] 75)) p fv wm lm (.slice A pl.idx.length ivc) := Blk.alloc hp3 _
        have hqA := Blk.new w3 75 [.int .i64 ((turn : Int) + 1), .int .i64 (at0 : Nat), .int .i64 rl]
        have hp4 : PB W4 p fv wm lm (.slice A pl.idx.length ivc) := Blk.chg hpA k4 (hdA.ne_of hpA (by decide) (by decide) (by decide))
        have hq4 := hqA.chg k4 (hdA.ne_of hqA (by decide) (by decide) (by decide))
        have m0 := hp4.cell 2
        have m1 := hp4.cell 3
        have m2 := hq4.cell 0
        simp only [List.getElem?_cons_zero, List.getElem?_cons_succ] at m0 m1 m2
        have hsp : s ≠ p := hs4.type_ne hp4 (by decide)
        have hsq : s ≠ w3.heap.size := hs4.type_ne hq4 (by decide)
        have hsp' : ¬ p = s := fun e => hsp e.symm
        have hsq' : ¬ w3.heap.size = s := fun e => hsq e.symm
        have g1 := hs4.cell 1
        have g1' := hs4.frozen 1
        have g3 := fun v => (hs4.setCell 1 v).cell 3
        have g3' := fun v => (hs4.setCell 1 v).frozen 3
        have g2 := fun v u => ((hs4.setCell 1 v).setCell 3 u).cell 2
        have g2' := fun v u => ((hs4.setCell 1 v).setCell 3 u).frozen 2
        simp only [List.getElem?_cons_zero, List.getElem?_cons_succ, List.set_cons_succ, List.set_cons_zero] at g1 g3 g2
        go_region_held3 (fun w' => w'.cell? ⟨p, 2, none⟩ = some (.map (some lm)) ∧ w'.cell? ⟨p, 3, none⟩ = some (.slice A pl.idx.length ivc) ∧ w'.cell? ⟨w3.heap.size, 0, none⟩ = some (.int .i64 ((turn : Int) + 1)))
          (first | (with_reducible exact keep3d hsp' hsq' (by assumption)) | exact ⟨m0, m1, m2⟩) (fail)
        go_wp2
        go_ret
        have kA3 : Same w3 (w3.alloc (.cells #[.int .i64 ((turn : Int) + 1), .int .i64 (at0 : Nat), .int .i64 rl] 75)) := (Chg.refl _ w3).alloc _
        have kS : Chg (fun k => k = s) W4 (((W4.setCell ⟨s, 1, none⟩ (.map (some lm))).setCell ⟨s, 3, none⟩ (.slice A pl.idx.length ivc)).setCell ⟨s, 2, none⟩ (.int .i64 ((turn : Int) + 1))).drew :=
          (((Chg.set1 W4 s 1 _).setCell (p := ⟨s, 3, none⟩) (fun _ => rfl) _).setCell (p := ⟨s, 2, none⟩) (fun _ => rfl) _).drew
        have hlA := (hl3.same kA3).chg k4 (fun h => hdA.fp_map (hl3.same kA3) h rfl)
        have oS : Off3 W4 (fun k => k = s) := fun b c hb e => hb.type_ne hs4 (by decide) e
        have hF : StoreAt (((W4.setCell ⟨s, 1, none⟩ (.map (some lm))).setCell ⟨s, 3, none⟩ (.slice A pl.idx.length ivc)).setCell ⟨s, 2, none⟩ (.int .i64 ((turn : Int) + 1))).drew s L.d ((turn + 1 : Nat) : Int) pl.idx pl.tab false :=
          ⟨lm, .slice A pl.idx.length ivc, kv3, ((hs4.setCell 1 (.map (some lm))).setCell 3 (.slice A pl.idx.length ivc)).setCell 2 (.int .i64 ((turn : Int) + 1)), ((hs3.chg kA3 (fun _ _ _ h => h)).chg k4 (hL3 _ hdA)).chg kS oS, hlA.chg kS (fun e => hlA.ne hs4 e), ((ht3.chg kA3 (fun _ _ _ h => h)).chg k4 (hL3 _ hdA)).chg kS oS⟩
        have kF := (Chg.after_same kA (k4.mono (T := fun k => k = s ∨ L.fp k) (fun _ _ h => .inr h))).trans' kS (fun _ _ h => h) (fun _ _ h => .inl h)
        have hDF : DAt w (((W4.setCell ⟨s, 1, none⟩ (.map (some lm))).setCell ⟨s, 3, none⟩ (.slice A pl.idx.length ivc)).setCell ⟨s, 2, none⟩ (.int .i64 ((turn : Int) + 1))).drew L D9 := by
          obtain ⟨L9, h1, h2, h3, h4⟩ := hD4
          exact ⟨L9, h1.chg kS (fun b hb e => h1.ne_of hs4 (by decide) (by decide) (by decide) (e ▸ hb)), h2, h3, fun k hk => (h4 k hk).imp id (fun h => Nat.le_trans kA.size h)⟩
        exact Hend.out L _ hDF kF (.inl ⟨by first | rfl | trivial, hF⟩)
      · have hne : (c9 != 0) = true := by simpa using hc9
        have heq : (c9 == 0) = false := by simpa using hc9
        go_enter Tryz.func21, Tryz.ntmps21
        go_wp2_with (first
          | (go_at_call 43; refine hg.mono ?_; rintro e w1 ⟨rfl, rfl⟩)
          | (go_at_call 44; refine hmy.mono ?_; rintro e w2 ⟨rfl, k2⟩)
          | (go_at_call 45; refine (hpl2 _ k2).mono ?_; rintro e w3 ⟨p, wm, lm, fv, A, ivc, kv3, rfl, hp3, hs3, hm3, hl3, ht3, k3⟩)
          | (go_at_call 46
             have kA : Same w (w3.alloc (.cells #[.int .i64 ((turn : Int) + 1), .int .i64 (at0 : Nat), .int .i64 rl] 75)) := (k2.trans k3).alloc _
             refine (hca _ p wm lm fv _ (Blk.same hsb kA) (Blk.alloc hp3 _) (hm3.same ((Chg.refl _ w3).alloc _)) (hdisk.same kA)).mono ?_
             rintro e W4 ⟨rfl, hD4, k4⟩
             have hdA := hdisk.same kA
             have hsA : SB (w3.alloc (.cells #[.int .i64 ((turn : Int) + 1), .int .i64 (at0 : Nat), .int .i64 rl] 75)) s L.d mb turn iv0 false := Blk.same hsb kA
             have hs4 : SB W4 s L.d mb turn iv0 false := Blk.chg hsA k4 (hdA.ne_of hsA (by decide) (by decide) (by decide))
             have q4 := hs4.cell 4
             have f4 := hs4.frozen 4
             simp only [List.getElem?_cons_zero, List.getElem?_cons_succ] at q4))
        go_ret
        have kS := Chg.set1 W4 s 4 (.bool true)
        have hsA4 : SB W4 s L.d mb turn iv0 false := hs4
        have hmA : MapAt 9 W4 mb kv := (hm.same kA).chg k4 (fun h => hdA.fp_map (hm.same kA) h rfl)
        have hF : StoreAt (W4.setCell ⟨s, 4, none⟩ (.bool true)) s L.d turn idx tab true :=
          ⟨mb, iv0, kv, Blk.setCell hs4 4 (.bool true), ((hsec0.chg kA (fun _ _ _ h => h)).chg k4 (hL3 _ hdA)).chg kS (fun b c hb e => hb.type_ne hs4 (by decide) e), hmA.chg kS (fun e => hmA.ne hs4 e), ((htab.chg kA (fun _ _ _ h => h)).chg k4 (hL3 _ hdA)).chg kS (fun b c hb e => hb.type_ne hs4 (by decide) e)⟩
        have kF : Chg (fun k => k = s ∨ L.fp k) w (W4.setCell ⟨s, 4, none⟩ (.bool true)) := (Chg.after_same kA (k4.mono (fun _ _ h => .inr h))).trans' kS (fun _ _ h => h) (fun _ _ h => .inl h)
        have hDF : DAt w (W4.setCell ⟨s, 4, none⟩ (.bool true)) L D9 := by
          obtain ⟨L9, h1, h2, h3, h4⟩ := hD4
          exact ⟨L9, h1.chg kS (fun b hb e => h1.ne_of hs4 (by decide) (by decide) (by decide) (e ▸ hb)), h2, h3, fun k hk => (h4 k hk).imp id (fun h => Nat.le_trans kA.size h)⟩
        exact Hend.out L _ hDF kF (.inr ⟨hc9, hF⟩)
end Go.Proofs.Obj

/- P5 -/
/-
  What a commit leaves on a disk, whole or cut short, in plain words.
-/
namespace Go.Proofs.Obj
open Go Go.RowKit

theorem writes_up : ∀ (W : List (Nat × ByteArray)) (D : Dk), D.down = false → -1 ≤ D.fuse → (∀ x ∈ W, x.1 < D.firm.length ∧ x.2.size = 64) →
    ((D.writes W).2 = 0 ∧ (D.writes W).1.firm = D.firm ∧ (D.writes W).1.loose = D.loose ++ W ∧ (D.writes W).1.down = false ∧ -1 ≤ (D.writes W).1.fuse ∧ (D.fuse = -1 → (D.writes W).1.fuse = -1) ∧ ((D.writes W).1.fuse = -1 → True)) ∨
    ((D.writes W).2 = 7 ∧ (D.writes W).1.firm = D.firm ∧ (D.writes W).1.down = true ∧ (∃ k, (D.writes W).1.loose = D.loose ++ W.take k) ∧ D.fuse ≠ -1)
  | [], D, hd, hf, _ => .inl ⟨rfl, rfl, by simp [Dk.writes], hd, hf, fun h => h, fun _ => trivial⟩
  | x :: W, D, hd, hf, h => by
    have hx := h x (by simp)
    have hb : hasB D.firm.length (x.1 : Int) = true := by simp [hasB]; omega
    rw [Dk.writes]
    by_cases h0 : D.fuse = 0
    · have e : D.write x.1 x.2 = ({ D with down := true }, 7) := by
        unfold Dk.write
        rw [if_neg (by rw [hd]; simp), if_neg (by rw [hb, hx.2]; simp), if_pos h0]
      rw [e, if_neg (show ¬ (7 : Int) = 0 by decide)]
      exact .inr ⟨rfl, rfl, rfl, ⟨0, by simp⟩, by omega⟩
    · have e : D.write x.1 x.2 = ({ D with loose := D.loose ++ [(x.1, x.2)], fuse := max (-1) (D.fuse - 1) }, 0) := by
        unfold Dk.write
        rw [if_neg (by rw [hd]; simp), if_neg (by rw [hb, hx.2]; simp), if_neg h0, Int.toNat_natCast]
      rw [e, if_pos rfl]
      rcases writes_up W { D with loose := D.loose ++ [(x.1, x.2)], fuse := max (-1) (D.fuse - 1) } hd (by dsimp only; omega) (fun y hy => h y (by simp [hy])) with ⟨h1, h2, h3, h4, h5, h6, h7⟩ | ⟨h1, h2, h3, ⟨k, h4⟩, h5⟩
      · refine .inl ⟨h1, h2, by rw [h3]; simp, h4, h5, fun hD => h6 (by dsimp only; omega), h7⟩
      · refine .inr ⟨h1, h2, h3, ⟨k + 1, by rw [h4]; simp⟩, fun hD => h5 (by dsimp only; omega)⟩

/-- How a carry ends. -/
theorem carry_ends {D : Dk} (hd : D.down = false) (hl : D.loose = []) (hf : -1 ≤ D.fuse) {W : List (Nat × ByteArray)} (hW : ∀ x ∈ W, x.1 < D.firm.length ∧ x.2.size = 64) {i : Nat} (hi : i < D.firm.length) {h : ByteArray} (hh : h.size = 64) :
    ((carryF D W i h).2 = 0 ∧ (carryF D W i h).1.firm = (laidDown D.firm W).set i h ∧ (carryF D W i h).1.loose = [] ∧ (carryF D W i h).1.down = false ∧ (D.fuse = -1 → (carryF D W i h).1.fuse = -1)) ∨
    ((carryF D W i h).2 = 7 ∧ (carryF D W i h).1.down = true ∧ D.fuse ≠ -1 ∧ (((carryF D W i h).1.firm = D.firm ∧ ∃ k, (carryF D W i h).1.loose = W.take k) ∨ ((carryF D W i h).1.firm = laidDown D.firm W ∧ (carryF D W i h).1.loose = []))) := by
  rcases writes_up W D hd hf hW with ⟨h1, h2, h3, h4, h5, h6, _⟩ | ⟨h1, h2, h3, ⟨k, h4⟩, h5⟩
  · rw [hl, List.nil_append] at h3
    unfold carryF
    rw [if_pos h1]
    generalize (D.writes W).1 = D1 at *
    have e1 : D1.flush = ({ D1 with firm := laidDown D1.firm D1.loose, loose := [] }, 0) := by unfold Dk.flush; rw [if_neg (by rw [h4]; simp)]
    rw [e1, if_pos rfl]
    dsimp only
    rw [h2, h3]
    have hb : hasB (laidDown D.firm W).length (i : Int) = true := by rw [laidDown_length]; simp [hasB]; omega
    by_cases h0 : D1.fuse = 0
    · have e : Dk.write { D1 with firm := laidDown D.firm W, loose := [] } i h = ({ D1 with firm := laidDown D.firm W, loose := [], down := true }, 7) := by
        unfold Dk.write
        dsimp only
        rw [if_neg (by rw [h4]; simp), if_neg (by rw [hb, hh]; simp), if_pos h0]
      rw [e, if_neg (show ¬ (7 : Int) = 0 by decide)]
      refine .inr ⟨rfl, rfl, fun hD => ?_, .inr ⟨rfl, rfl⟩⟩
      have := h6 hD
      omega
    · have e : Dk.write { D1 with firm := laidDown D.firm W, loose := [] } i h = ({ D1 with firm := laidDown D.firm W, loose := [(i, h)], fuse := max (-1) (D1.fuse - 1) }, 0) := by
        unfold Dk.write
        dsimp only
        rw [if_neg (by rw [h4]; simp), if_neg (by rw [hb, hh]; simp), if_neg h0, Int.toNat_natCast]; rfl
      rw [e, if_pos rfl]
      have e4 : Dk.flush { D1 with firm := laidDown D.firm W, loose := [(i, h)], fuse := max (-1) (D1.fuse - 1) } = ({ D1 with firm := (laidDown D.firm W).set i h, loose := [], fuse := max (-1) (D1.fuse - 1) }, 0) := by
        unfold Dk.flush
        rw [if_neg (by rw [h4]; simp)]
        rfl
      dsimp only
      rw [e4]
      refine .inl ⟨rfl, rfl, rfl, h4, fun hD => ?_⟩
      have := h6 hD
      dsimp only
      omega
  · rw [hl, List.nil_append] at h4
    unfold carryF
    rw [if_neg (by rw [h1]; decide)]
    exact .inr ⟨h1, h3, h5, .inl ⟨h2, k, h4⟩⟩

theorem sector_firm {D : Dk} (hl : D.loose = []) : D.sector = fun a => D.firm.getD a default := by
  funext a
  unfold Dk.sector
  rw [hl]
  rfl
theorem crash_sector {D : Dk} (keep : List Int) : (D.crash keep).sector = fun a => (keptFrom keep 0 D.loose D.firm).getD a default := sector_firm rfl

/-- What a disk bears, in peace. -/
structure DGood (D : Dk) (turn : Nat) (idx : List Nat) (tab : Tab) (m : MpL) : Prop where
  up : D.down = false
  loose : D.loose = []
  fuse : -1 ≤ D.fuse
  good : Good D.sector D.firm.length turn idx tab
  small : ∀ x ∈ tab, x.2.size ≤ 131072 ∧ x.1.length ≤ 300
  blobs : gMap (blobOf D.sector) tab = m

theorem DGood.crash {D D' : Dk} {turn : Nat} {idx : List Nat} {tab : Tab} {m : MpL} (h : DGood D turn idx tab m) {W : List (Nat × ByteArray)} (hW : ∀ x ∈ W, (2 ≤ x.1 ∧ x.1 < D.firm.length ∧ x.1 ∉ idx ++ allSecs tab) ∧ x.2.size = 64)
    (hD : (D'.firm = D.firm ∧ ∃ k, D'.loose = W.take k) ∨ (D'.firm = laidDown D.firm W ∧ D'.loose = [])) (keep : List Int) : DGood (D'.crash keep) turn idx tab m ∧ (D'.crash keep).firm.length = D.firm.length ∧ (D'.crash keep).fuse = -1 := by
  have hs0 : ∀ s ∈ D.firm, s.size = 64 := by
    intro s hs
    obtain ⟨a, ha, rfl⟩ := List.mem_iff_getElem.1 hs
    have := h.good.size a ha
    rw [sector_firm h.loose] at this
    simpa [List.getD, ha] using this
  have key : (D'.crash keep).firm.length = D.firm.length ∧ (∀ s ∈ (D'.crash keep).firm, s.size = 64) ∧ ∀ b, (∀ x ∈ W, x.1 ≠ b) → (D'.crash keep).firm[b]? = D.firm[b]? := by
    show (keptFrom keep 0 D'.loose D'.firm).length = _ ∧ (∀ s ∈ keptFrom keep 0 D'.loose D'.firm, _) ∧ ∀ b, _ → (keptFrom keep 0 D'.loose D'.firm)[b]? = _
    have hkall : ∀ (l : List (Nat × ByteArray)) (k : Nat) (f : List ByteArray), (∀ s ∈ f, s.size = 64) → (∀ x ∈ l, x.2.size = 64) → ∀ s ∈ keptFrom keep k l f, s.size = 64 := by
      intro l
      induction l with
      | nil => intro k f hf _; exact hf
      | cons x l ih =>
        intro k f hf hl
        rw [keptFrom]
        refine ih _ _ ?_ (fun y hy => hl y (by simp [hy]))
        split
        · intro s hs
          rcases List.mem_or_eq_of_mem_set hs with h | rfl
          · exact hf s h
          · exact hl x (by simp)
        · exact hf
    rcases hD with ⟨h1, k, h2⟩ | ⟨h1, h2⟩
    · rw [h1, h2]
      exact ⟨keptFrom_length _ _ _ _, hkall _ _ _ hs0 (fun x hx => (hW x (List.mem_of_mem_take hx)).2), fun b hb => kept_other keep _ 0 _ b (fun x hx => hb x (List.mem_of_mem_take hx))⟩
    · rw [h1, h2]
      exact ⟨laidDown_length _ _, laidDown_all _ _ hs0 (fun x hx => (hW x hx).2), fun b hb => laidDown_other W _ b hb⟩
  obtain ⟨k1, k2, k3⟩ := key
  have hov : ∀ b, (∀ x ∈ W, x.1 ≠ b) → (D'.crash keep).sector b = D.sector b := fun b hb => by
    rw [sector_firm (D := D'.crash keep) rfl, sector_firm h.loose]
    exact getD_of_getElem? (k3 b hb)
  have hg := h.good.congr (rd' := (D'.crash keep).sector) (hov 0 (fun x hx e => by have := (hW x hx).1.1; omega)) (hov 1 (fun x hx e => by have := (hW x hx).1.1; omega)) (fun a ha => hov a (fun x hx e => (hW x hx).1.2.2 (e ▸ ha)))
    (fun a ha => by
      rw [sector_firm (D := D'.crash keep) rfl]
      rw [← k1] at ha
      have := k2 _ (List.getElem_mem ha)
      simpa [List.getD, ha] using this)
  exact ⟨⟨rfl, rfl, by show -1 ≤ (-1 : Int); omega, by rw [k1]; exact hg.1, h.small, hg.2.trans h.blobs⟩, k1, rfl⟩

/-- A commit that ended. -/
theorem DGood.commit {D D' : Dk} {turn : Nat} {idx : List Nat} {tab : Tab} {m : MpL} (h : DGood D turn idx tab m) {l : List PutM} (hm : mayF l = true) {p : Plan} (hp : planned D.firm.length idx tab l = some p) (ht : turn + 1 < 1000000)
    (h1 : D'.firm = (laidDown D.firm (decW p.ws)).set ((turn + 1) % 2) (headB (turn + 1) (p.idx.headD 0) (rowBytes p.tab).length)) (h2 : D'.loose = []) (h3 : D'.down = false) (h4 : -1 ≤ D'.fuse) : DGood D' (turn + 1) p.idx p.tab (mpPuts m l) ∧ D'.firm.length = D.firm.length := by
  obtain ⟨hw, hs, hstep⟩ := planned_ok h.good h.small hm hp ht
  have hlen : D'.firm.length = D.firm.length := by rw [h1, List.length_set, laidDown_length]
  have hn := h.good.n0
  have hn1 := h.good.n1
  have hhs : (headB (turn + 1) (p.idx.headD 0) (rowBytes p.tab).length).size = 64 := sealedL_size _ (by simp [headL, littleL_length, mark])
  have hov : ∀ b, b < 65536 → b ≠ (turn + 1) % 2 → D'.sector b = ov p.ws D.sector b := fun b hb hne => by
    rw [sector_firm h2, sector_firm h.loose, h1]
    dsimp only
    rw [getD_of_getElem? (List.getElem?_set_ne (fun e => hne e.symm))]
    exact laid_ov hw D.firm (fun a ha => ha.2.1) hb
  have hs0 : ∀ s ∈ D.firm, s.size = 64 := by
    intro s hs
    obtain ⟨a, ha, rfl⟩ := List.mem_iff_getElem.1 hs
    have := h.good.size a ha
    rw [sector_firm h.loose] at this
    simpa [List.getD, ha] using this
  have hlow : ∀ b, b < 2 → ov p.ws D.sector b = D.sector b := fun b hb => by
    unfold ov
    split
    · rename_i s hs
      unfold kvGet at hs
      obtain ⟨y, hy, hy2⟩ := Option.map_eq_some_iff.1 hs
      obtain ⟨a, s', hx, hA, h6, _⟩ := hw.all y (List.mem_of_find?_eq_some hy)
      have hk := List.find?_some hy
      subst hx
      have : a = b := little2_inj h6 (by omega) (by simpa using hk)
      have := hA.1
      omega
    · rfl
  have hg := hstep D'.sector (fun a ha hal => hov a (by omega) (by omega)) (by
      rw [sector_firm h2, h1]
      dsimp only
      rw [List.getD, List.getElem?_set_self (by rw [laidDown_length]; omega)]; rfl) (by
      rw [hov (turn % 2) (by omega) (by omega), hlow _ (by omega)])
    (fun a ha => by
      rw [sector_firm h2]
      rw [← hlen] at ha
      have hall : ∀ s ∈ D'.firm, s.size = 64 := by
        rw [h1]
        intro s hs
        rcases List.mem_or_eq_of_mem_set hs with h | rfl
        · exact laidDown_all _ _ hs0 (fun x hx => (hw.dec_mem hx).2.2) s h
        · exact hhs
      have := hall _ (List.getElem_mem ha)
      simpa [List.getD, ha] using this)
  exact ⟨⟨h3, h2, h4, by rw [hlen]; exact hg.1, hs, by rw [hg.2, h.blobs]⟩, hlen⟩

/-- How a commit ends on a disk in peace. -/
theorem commit_ends {D D' : Dk} {turn : Nat} {idx : List Nat} {tab : Tab} {m : MpL} (h : DGood D turn idx tab m) {l : List PutM} {c : Int} {st : Nat → List Nat → Tab → Bool → Prop} (ht : turn + 1 < 1000000) (he : CommitEnd D turn idx tab l D' c st) (hfu : -1 ≤ D'.fuse) :
    (mayF l = false ∧ c = 1 ∧ D' = D ∧ st turn idx tab false) ∨
    (mayF l = true ∧ c = 6 ∧ D.firm.length < 3 * (needOf m + needOf (mpPuts m l)) + 40 ∧ D' = D ∧ st turn idx tab false) ∨
    (mayF l = true ∧ c = 0 ∧ ∃ idx' tab', st (turn + 1) idx' tab' false ∧ DGood D' (turn + 1) idx' tab' (mpPuts m l) ∧ D'.firm.length = D.firm.length ∧ (D.fuse = -1 → D'.fuse = -1)) ∨
    (mayF l = true ∧ c = 7 ∧ st turn idx tab true ∧ D.fuse ≠ -1 ∧ D'.down = true ∧ D'.loose.length ≤ 65536 ∧ ∀ keep, DGood (D'.crash keep) turn idx tab m ∧ (D'.crash keep).firm.length = D.firm.length ∧ (D'.crash keep).fuse = -1) := by
  rcases he with he | ⟨h1, h2, h3, h4, h5⟩ | ⟨h1, pl, h2, h3, h4⟩
  · exact .inl he
  · refine .inr (.inl ⟨h1, h3, ?_, h4, h5⟩)
    by_cases hr : 3 * (needOf m + needOf (mpPuts m l)) + 40 ≤ D.firm.length
    · obtain ⟨p, hp⟩ := planned_room h.good h.small h1 (by rw [h.blobs]; exact hr)
      rw [h2] at hp
      cases hp
    · omega
  · obtain ⟨hw, hs, hstep⟩ := planned_ok h.good h.small h1 h2 ht
    have hn := h.good.n0
    have hn1 := h.good.n1
    have hhs : (headB (turn + 1) (pl.idx.headD 0) (rowBytes pl.tab).length).size = 64 := sealedL_size _ (by simp [headL, littleL_length, mark])
    have hW : ∀ x ∈ decW pl.ws, (2 ≤ x.1 ∧ x.1 < D.firm.length ∧ x.1 ∉ idx ++ allSecs tab) ∧ x.2.size = 64 := fun x hx => by
      obtain ⟨hA, _, hz⟩ := hw.dec_mem hx
      exact ⟨hA, hz⟩
    have hwl := hw.len (n := D.firm.length) (fun a ha => ha.2.1)
    have hce := carry_ends (D := D) h.up h.loose h.fuse (W := decW pl.ws) (fun x hx => ⟨(hW x hx).1.2.1, (hW x hx).2⟩) (i := (turn + 1) % 2) (by omega) hhs
    generalize hr : carryF D (decW pl.ws) ((turn + 1) % 2) (headB (turn + 1) (pl.idx.headD 0) (rowBytes pl.tab).length) = r at *
    obtain ⟨D9, c9⟩ := r
    obtain ⟨rfl, rfl⟩ := Prod.mk.inj h3
    dsimp only at hce
    rcases hce with ⟨e1, e2, e3, e4, e5⟩ | ⟨e1, e2, e3, e4⟩
    · subst e1
      rcases h4 with ⟨_, h4⟩ | ⟨h4, _⟩
      · obtain ⟨g1, g2⟩ := h.commit h1 h2 ht e2 e3 e4 hfu
        exact .inr (.inr (.inl ⟨h1, rfl, pl.idx, pl.tab, h4, g1, g2, e5⟩))
      · exact absurd rfl h4
    · subst e1
      rcases h4 with ⟨h4, _⟩ | ⟨_, h4⟩
      · cases h4
      · refine .inr (.inr (.inr ⟨h1, rfl, h4, e3, e2, ?_, fun keep => h.crash hW e4 keep⟩))
        rcases e4 with ⟨_, k, e4⟩ | ⟨_, e4⟩
        · rw [e4]
          have := List.length_take_le' k (decW pl.ws)
          have e : (decW pl.ws).length = pl.ws.length := by simp [decW]
          omega
        · rw [e4]; simp
end Go.Proofs.Obj
