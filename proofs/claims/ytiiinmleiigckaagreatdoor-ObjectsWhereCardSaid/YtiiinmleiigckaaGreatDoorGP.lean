/- What is proved here: contracts of the bitmap. No condition but what each theorem says. -/
import Derived.Test.YtiiinmleiigckaaGreatDoorGO
import Derived.Test.YtiiinmleiigckaaGreatDoorGI
set_option linter.unusedVariables false
set_option linter.unusedSimpArgs false

/- B5 -/
namespace Go.Proofs.Obj
open Go Go.RowKit Go.Shelf
attribute [local go_sem] Oper.semAt_some

def encI (p : Nat) : Array Value := #[.int .i64 p]
theorem runPlaces_append (a b : List (Nat × Nat)) : runPlaces (a ++ b) = runPlaces a ++ runPlaces b := by simp [runPlaces]
theorem runPlaces_split (rs : List (Nat × Nat)) (m : Nat) (h : m < rs.length) (j : Nat) (hj : j < rs[m].2) :
    runPlaces rs = (runPlaces (rs.take m) ++ List.range' rs[m].1 j) ++ (rs[m].1 + j) :: (List.range' (rs[m].1 + j + 1) (rs[m].2 - j - 1) ++ runPlaces (rs.drop (m + 1))) := by
  have e1 : rs = rs.take m ++ rs[m] :: rs.drop (m + 1) := by
    conv => lhs; rw [← List.take_append_drop m rs, List.drop_eq_getElem_cons h]
  have e2 : rs[m].2 = j + (1 + (rs[m].2 - j - 1)) := by omega
  have e3 : runPlaces (rs[m] :: rs.drop (m + 1)) = List.range' rs[m].1 rs[m].2 ++ runPlaces (rs.drop (m + 1)) := by rw [runPlaces, List.flatMap_cons]; rfl
  have e4 : List.range' rs[m].1 rs[m].2 = List.range' rs[m].1 j ++ (rs[m].1 + j) :: List.range' (rs[m].1 + j + 1) (rs[m].2 - j - 1) := by
    conv => lhs; rw [e2]
    rw [range'_split, range'_split]
    rfl
  conv => lhs; rw [e1]
  rw [runPlaces_append, e3, e4]
  simp

set_option maxRecDepth 100000 in
set_option maxHeartbeats 1000000 in
theorem places_iter {w : World} {B cap : Nat} {A : Option Addr} {rs : List (Nat × Nat)} (hB : Blk w B 137 [.slice A rs.length cap]) (hrow : w.ownsRow 0 177 2 (.slice A rs.length cap) rs.length (runCells rs)) (hl : rs.length ≤ 1000001) (hN : ∀ r ∈ rs, r.1 + r.2 ≤ 65536) :
    Iter Tryz.prog 126 #[.pointer (some ⟨B, 0, none⟩)] encI (fun k => k = B ∨ (Value.slice A rs.length cap).ownBlock = some k) (runPlaces rs) w := by
  intro lo J Jx S W hsame hS hJ hJx hY h0
  have hBW := hB.same hsame
  have hrowW := own_chg hrow hsame (fun _ _ h => h)
  have cB := hBW.cell 0
  simp only [List.getElem?_cons_zero] at cB
  have hSlt : ∀ k, S k → k < W.heap.size := fun k h => (hS k h).1
  refine (callsIn_wide (n := 0)).1 ?_
  refine callsIn_of_wp Tryz.func126 rfl trivial ?_ rfl
  simp only [Tryz.ntmps126, List.size_toArray, List.length_cons, List.length_nil, Nat.reduceAdd, Nat.reduceSub, Array.replicate_succ, Array.replicate_zero, List.push_toArray, List.append_toArray, List.nil_append, List.cons_append, Array.size_append]
  gi_wp2
  gi_loopw [8] (fun i wr => ∃ (m : Nat) (M : Nat → Prop), m ≤ rs.length ∧ i = .int .i64 m ∧ Grew S W M wr ∧ Chg S W wr ∧ J (runPlaces (rs.take m)) M wr) (fun i _ => rs.length - (intOf i).toNat)
  case atStart =>
    exact ⟨0, S, Nat.zero_le _, rfl, .refl _ _, .refl _ _, h0⟩
  case round =>
    obtain ⟨m, M, hm, rfl, hgr, hch, hj⟩ := hrel
    obtain ⟨wo, rfl⟩ : ∃ x, x = wr := ⟨_, rfl⟩
    by_cases hlt : m < rs.length
    · have hBr := hBW.chg hch (fun h => (hS _ h).2 (.inl rfl))
      have hrowr := own_chg hrowW hch (fun b hb h => (hS _ h).2 (.inr hb))
      obtain ⟨g, rfl⟩ : ∃ g, A = some ⟨g, 0, none⟩ := by
        rcases hrow.2 with ⟨_, h0⟩ | ⟨g, cap, cur, h, _⟩
        · omega
        · exact ⟨g, by simpa using (Value.slice.inj h).1⟩
      have r0 := own_cells hrowr (m * 2) _ (runCells_at rs m hlt).1
      have r1 := own_cells hrowr (m * 2 + 1) _ (runCells_at rs m hlt).2
      have hN1 := hN _ (List.getElem_mem hlt)
      have hsp := runPlaces_split rs m hlt
      have hnext : runPlaces (rs.take (m + 1)) = runPlaces (rs.take m) ++ List.range' rs[m].1 rs[m].2 := by
        rw [← List.take_append_getElem hlt, runPlaces_append]
        simp [runPlaces]
      have Hn := Lib.hid hnext
      have Hsp := Lib.hid hsp
      have hMlt := hgr.lt hch.size hSlt
      clear hnext hsp hN cB
      generalize rs[m] = r at *
      have hq := Blk.new wo 177 [.int .i64 r.1, .int .i64 r.2]
      have hV : Same wo (wo.alloc (.cells [.int .i64 r.1, .int .i64 r.2].toArray 177)) := (Chg.refl _ wo).alloc _
      have hj1 := hJ _ _ _ _ hj (Chg.of_same hV)
      have hmx : max (0 : Int) (r.2 : Int) = (r.2 : Int) := by omega
      gi_wp2
      change Blk (wo.alloc (.cells #[.int .i64 r.1, .int .i64 r.2] 177)) _ _ _ at hq
      change Same wo (wo.alloc (.cells #[.int .i64 r.1, .int .i64 r.2] 177)) at hV
      change J _ _ (wo.alloc (.cells #[.int .i64 r.1, .int .i64 r.2] 177)) at hj1
      have hqs : (wo.alloc (.cells #[.int .i64 r.1, .int .i64 r.2] 177)).heap.size = wo.heap.size + 1 := by simp
      generalize wo.alloc (.cells #[.int .i64 r.1, .int .i64 r.2] 177) = V at *
      gi_loopw [15] (fun i wr => ∃ (j : Nat) (M' : Nat → Prop), j ≤ r.2 ∧ i = .int .i64 j ∧ Grew M V M' wr ∧ Chg M V wr ∧ J (runPlaces (rs.take m) ++ List.range' r.1 j) M' wr) (fun i _ => r.2 - (intOf i).toNat)
      case atStart => exact ⟨0, M, Nat.zero_le _, rfl, .refl _ _, .refl _ _, by simpa using hj1⟩
      case round =>
        obtain ⟨j, M', hjl, rfl, hgr', hch', hj'⟩ := hrel
        by_cases hjt : j < r.2
        · have hq' := hq.chg hch' (fun h => by have := hMlt _ h; omega)
          have q0 := hq'.cell 0
          have q1 := hq'.cell 1
          simp only [List.getElem?_cons_zero, List.getElem?_cons_succ] at q0 q1
          have hgrW : Grew S W M' wr := hgr.trans (B := wr) (fun k h => (hgr' k h).imp id (fun h => ⟨by omega, h.2⟩)) hch.size (by have := hch'.size; omega)
          have hchW : Chg S W wr := hgr.chg hch (Chg.after_same hV hch')
          obtain ⟨fn, tmps, assign, body, hy, hR⟩ := hY _ _ _ M' wr (Hsp.out j hjt) hchW.size (hgrW.lt hchW.size hSlt) hj'
          dsimp only [encI] at hy
          have hpl : ((r.1 + j : Nat) : Int) = (r.1 : Int) + (j : Int) := by omega
          have hrj : List.range' r.1 (j + 1) = List.range' r.1 j ++ [r.1 + j] := by rw [range'_split]; rfl
          rw [hpl] at hy
          have Hrj := Lib.hid hrj
          clear hrj hpl
          gi_wp2
          refine ⟨rfl, hR.mono ?_⟩
          rintro e W' ⟨M2, hgr2, hch2, (⟨rfl, hj2⟩ | ⟨rfl, hjx⟩)⟩
          · gi_wp2
            go_roundw
            case rel =>
              refine ⟨j + 1, M2, by omega, rfl, hgr'.trans hgr2 hch'.size hch2.size, hgr'.chg hch' hch2, ?_⟩
              rw [Hrj.out, ← List.append_assoc]; exact hj2
            case measure => simp only [intOf]; omega
          · gi_wp2
            refine bodyPost_ret (results_none rfl _ _ _) rfl ?_
            refine ⟨rfl, M2, hgrW.trans hgr2 hchW.size hch2.size, hgrW.chg hchW hch2, .inr ⟨_, ?_, hjx⟩⟩
            rw [Hsp.out j hjt]
            exact ⟨_, List.append_assoc _ _ _⟩
        · obtain rfl : j = r.2 := by omega
          have hgrW : Grew S W M' wr := hgr.trans (B := wr) (fun k h => (hgr' k h).imp id (fun h => ⟨by omega, h.2⟩)) hch.size (by have := hch'.size; omega)
          have hchW : Chg S W wr := hgr.chg hch (Chg.after_same hV hch')
          rw [← Hn.out] at hj'
          gi_wp2
          go_roundw
          case rel => exact ⟨m + 1, M', by omega, rfl, hgrW, hchW, hj'⟩
          case measure => simp only [intOf]; omega
    · gi_wp2
      go_end0
      refine ⟨rfl, M, hgr, hch, .inl ?_⟩
      rwa [List.take_of_length_le (by omega)] at hj
end Go.Proofs.Obj

/- B6 -/
namespace Go.Proofs.Obj
open Go Go.RowKit Go.Shelf
attribute [local go_sem] Oper.semAt_some

theorem ownsRow_nil' (w : World) (base : Nat) (e : TypeId) (size : Nat) : w.ownsRow base e size (.slice none 0 0) ([] : List Nat).length [] := World.ownsRow_nil w base e size
/-- 'append(v, x)' inside a fence. -/
theorem app_own_in {F : Fence} {m : Nat} {P : Program} {W : World} {ops : Array Oper} {rest : List Oper} {o : Oper} {a : Act} {Q : Exit → Act → World → Prop} (hgd : o.guard = none) (s x : Operand) (t e : TypeId) (z : Value) (size bytes : Nat)
    (ho : o.op = .call { callee := .builtin .append, args := #[s, x], argTypes := #[t, t] })
    (ht : P.underlying t = some (.slice e)) (hinfo : (P.info? e).map (fun i => (i.zero, i.size, i.bytes)) = some (some z, size, bytes)) (hz : z.cells.size = size) (hsz : 0 < size) (hb0 : 0 < bytes)
    (base : Nat) (v : Value) (n : Nat) (xs cs : List Value) (hs : a.eval s = v) (hx : a.eval x = .slice (some ⟨W.heap.size, 0, none⟩) 1 1) (hcs : cs.length = size) (h1 : ∀ u ∈ cs, u.oneCell' = true)
    (HO : W.ownsRow base e size v n xs) (hbase : base ≤ W.heap.size) (hl : (n + 1) * bytes ≤ 140737488355328)
    (h : ∀ g cap W', W'.ownsRow base e size (.slice (some ⟨g, 0, none⟩) (n + 1) cap) (n + 1) (xs ++ cs) → Chg (fun k => v.ownBlock = some k) W W' → (v.ownBlock = some g ∨ W.heap.size ≤ g) →
      wpListIn F m P ops Q rest (a.put o.dst (.slice (some ⟨g, 0, none⟩) (n + 1) cap)) W') :
    wpListIn F m P ops Q (o :: rest) a (W.alloc (.cells cs.toArray e)) := by
  obtain ⟨i0, hi, hzz⟩ := Option.map_eq_some_iff.1 hinfo
  simp only [Prod.mk.injEq] at hzz
  obtain ⟨hz0, hz1, hz2⟩ := hzz
  have hlen : n + 1 ≤ 140737488355328 := Nat.le_trans (Nat.le_mul_of_pos_right _ hb0) hl
  refine wpListIn_plain hgd fun K hK' => ?_
  obtain ⟨v1, w1, hrun, hown, hg, _, hat⟩ := run_append_own_at (P := P) (W.alloc (.cells cs.toArray e)) base t o.type e i0 z size bytes ht hi hz0 hz1 hz2 hz hsz v n xs (HO.alloc _) ⟨W.heap.size, 0, none⟩ 1 1 cs (by rw [hcs, Nat.one_mul])
    (World.news_of_block (cs := cs.toArray) (t := e) (fr := (0, 0)) (heap_alloc_new W _)) h1 (by simp only [maxLen]; omega) hl (by simp; omega)
  unfold Oper.wpIn
  refine ⟨?_, ?_⟩
  · simp [Oper.about, ho, resolve, Target.leads, Sem.run_pure]
  · rw [Oper.semAt_plain F _ _ (by rw [ho]; intro c hc'; cases hc')]
    simp [execOp, ho, resolve, invoke, builtin, hs, hx, hrun, Result.andThen]
    refine hK' _ _ ?_
    obtain ⟨g, cap, rfl⟩ := ownsRow_succ hown
    refine h g cap w1 hown (((Chg.refl _ W).alloc _).grown hg (fun k _ e => e)) ?_
    rcases hat with hat | hat
    · exact .inl (by simpa [Value.ownBlock] using hat.symm)
    · simp [Value.ownBlock] at hat; exact .inr (by omega)

def natInts (l : List Nat) : List Value := l.map fun p => .int .i64 (p : Nat)

theorem places_call (A : Option Addr) (n c : Nat) (w : World) : Calls Tryz.prog 99 #[.slice A n c] w fun e w' => e = .returned (.func (.func 126) #[] #[.pointer (some ⟨w.heap.size, 0, none⟩)]) ∧ w.alloc (.cells #[.slice A n c] 137) = w' := by
  go_enter Tryz.func99, Tryz.ntmps99
  go_wp2
  go_ret
  exact ⟨rfl, rfl⟩
theorem Tryz.info3 : (Tryz.prog.info? 3).map (fun i => (i.zero, i.size, i.bytes)) = some (some (.int .i64 0), 1, 8) := by kernel_rfl

set_option maxRecDepth 100000 in
set_option maxHeartbeats 1000000 in
/-- slices.AppendSeq to nothing: what the iterator hands out. -/
theorem appendSeq_spec {w : World} {gf : Nat} {lb : Array Value} {T : Nat → Prop} {xs : List Nat} (eg : ∀ args w, (callFunc gf args).run Tryz.prog w = .ok (.enter gf args) w) (hit : ∀ W, Same w W → Iter Tryz.prog gf lb encI T xs W) (hT : ∀ k, T k → k < w.heap.size) (hl : xs.length ≤ 1000000) :
    Calls Tryz.prog 125 #[.slice none 0 0, .func (.func gf) #[] lb] w fun e w' => ∃ v, e = .returned v ∧ w'.ownsRow w.heap.size 3 1 v xs.length (natInts xs) ∧ Same w w' := by
  refine (callsIn_wide (n := 0)).1 ?_
  refine callsIn_of_wp_marks Tryz.func125 rfl trivial ?_ rfl
  simp only [Tryz.ntmps125, List.size_toArray, List.length_cons, List.length_nil, Nat.reduceAdd, Nat.reduceSub, Array.replicate_succ, Array.replicate_zero, List.push_toArray, List.append_toArray, List.nil_append, List.cons_append, Array.size_append]
  gi_wp2
  have hW : Same w (w.alloc (Obj.cells #[Value.slice none 0 0] 56)) := (Chg.refl _ w).alloc _
  have hb2 : Blk (w.alloc (Obj.cells #[Value.slice none 0 0] 56)) w.heap.size 56 [.slice none 0 0] := Blk.new w 56 [.slice none 0 0]
  have hsz : (w.alloc (Obj.cells #[Value.slice none 0 0] 56)).heap.size = w.heap.size + 1 := by simp
  generalize w.alloc (Obj.cells #[Value.slice none 0 0] 56) = W at *
  refine range_rule (gf := gf) (lb := lb) rfl eg (hit W hW) (fun k h => by have := hT k h; omega) (fun _ => rfl) (fun k => k = w.heap.size)
    (fun k h => ⟨by omega, fun h' => by have := hT k h'; omega⟩)
    (fun pre M V => M w.heap.size ∧ ∃ v, Blk V w.heap.size 56 [v] ∧ V.ownsRow (w.heap.size + 1) 3 1 v pre.length (natInts pre) ∧ ∀ k, v.ownBlock = some k → M k)
    (fun c pre M V => False)
    (fun pre M X Y h hc => by
      obtain ⟨h1, v, h2, h3, h4⟩ := h
      exact ⟨h1, v, h2.chg hc (fun h => h.2 h1), own_chg h3 hc (fun b hb h => h.2 (h4 b hb)), h4⟩)
    (fun c pre M X Y h hc => h)
    ⟨rfl, _, hb2, ownsRow_nil' _ _ _ _, by simp [Value.ownBlock]⟩ ?round ?done ?stop
  case round =>
    rintro l pre x suf M V hx hlw hlV hMl hMV hgr hch ⟨hM0, v, hb, hrow, hM⟩ K hK
    dsimp only [encI]
    gi_wp2
    refine hK _ _ (.refl _ _) ?_
    rintro V2 hc2 ⟨_, v2, hb2, hrow2, hM2⟩
    have e2 := hb2.cellA 0
    have f2 := hb2.frozen 0
    have c2 := hb2.cell 0
    simp only [List.getElem?_cons_zero] at e2 c2
    gi_wp2_with (gi_at_builtin; refine app_own_in rfl (.tmp 8) (.tmp 10) 56 3 _ 1 8 rfl Tryz.underlying56 Tryz.info3 rfl (by decide) (by decide) (w.heap.size + 1) v2 pre.length (natInts pre) [.int .i64 (x : Nat)] rfl rfl rfl ?c1 hrow2 ?c2 ?c3 ?c4)
    case c1 => intro u hu; simp at hu; subst hu; rfl
    case c2 => have := hch.size; have := hc2.size; omega
    case c3 =>
      have : pre.length < xs.length := by rw [hx]; simp
      omega
    case c4 =>
      intro g cap W3 hrow3 k3 hg3
      have e5 : natInts pre ++ [Value.int .i64 (x : Nat)] = natInts (pre ++ [x]) := by simp [natInts]
      rw [e5] at hrow3
      have hne : ¬ v2.ownBlock = some w.heap.size := fun e => by have := own_base hrow2 e; omega
      have hb3 := hb2.chg k3 hne
      have c3 := hb3.cell 0
      have f3 := hb3.frozen 0
      simp only [List.getElem?_cons_zero] at c3
      have hb4 := hb3.setCell 0 (.slice (some ⟨g, 0, none⟩) (pre.length + 1) cap)
      have hs3 := hc2.size
      have hs4 := k3.size
      gi_wp2
      refine ⟨fun k => M k ∨ k = g, ?_, ?_, .inl hM0, _, hb4, ?_, ?_⟩
      · rintro k (h | rfl)
        · exact .inl h
        · rcases hg3 with h | h
          · exact .inl (hM2 _ h)
          · exact .inr ⟨h, by
              have := lt_of_at (own_type hrow3 rfl).choose_spec
              simpa using this⟩
      · exact (k3.mono (fun k _ h => hM2 k h)).setCell (p := ⟨w.heap.size, 0, none⟩) (fun _ => hM0) _
      · have : (pre ++ [x]).length = pre.length + 1 := by simp
        rw [this]
        exact own_chg hrow3 (Chg.set1 W3 w.heap.size 0 _) (fun b hb e => by have := own_base hrow3 hb; omega)
      · intro k hk
        exact .inr (by simpa [Value.ownBlock] using hk.symm)
  case done =>
    rintro DD M V hD1 hK1 hMD hgr hch ⟨hM0, v, hb, hrow, hM⟩
    have c2 := hb.cell 0
    simp only [List.getElem?_cons_zero] at c2
    gi_wp2
    refine leave_loop (v := v) (.inr rfl) hK1 (fun W' _ => results_tmp (fn := Tryz.f125) (t := 4) rfl _ _ _) (fun W' hc => ⟨v, rfl, own_chg (own_low hrow (by omega)) hc (fun b hb e => by subst e; exact hMD (hM _ hb)), ?_⟩)
    exact ((Chg.after_same hW hch).trans' hc (U := fun _ => False) (fun j hj h => by omega) (fun j hj e => by omega))
  case stop =>
    rintro DD c pre M V hD1 hK1 hMD hgr hch hpre hi
    exact hi.elim

set_option maxRecDepth 100000 in
theorem sectors_spec {w : World} {v : Value} {rs : List (Nat × Nat)} {base : Nat} (hrow : w.ownsRow base 177 2 v rs.length (runCells rs)) (hl : rs.length ≤ 1000001) (hN : ∀ r ∈ rs, r.1 + r.2 ≤ 65536) (hp : (runPlaces rs).length ≤ 1000000) :
    Calls Tryz.prog 68 #[v] w fun e w' => ∃ v', e = .returned v' ∧ w'.ownsRow w.heap.size 3 1 v' (runPlaces rs).length (natInts (runPlaces rs)) ∧ Same w w' := by
  obtain ⟨A, cap, rfl⟩ : ∃ A cap, v = .slice A rs.length cap := by
    rcases hrow.2 with ⟨h, h0⟩ | ⟨g, cap, cur, h, _⟩
    · exact ⟨none, 0, by rw [h, h0]⟩
    · exact ⟨_, cap, h⟩
  have hcol : ∀ W B, Blk W B 137 [.slice A rs.length cap] → Same w W → Calls Tryz.prog 98 #[.func (.func 126) #[] #[.pointer (some ⟨B, 0, none⟩)]] W fun e w' => ∃ v', e = .returned v' ∧ w'.ownsRow W.heap.size 3 1 v' (runPlaces rs).length (natInts (runPlaces rs)) ∧ Same W w' := by
    intro W B hB hs
    have hrowW := own_chg hrow hs (fun _ _ h => h)
    have hap := appendSeq_spec (w := W) (gf := 126) (lb := #[.pointer (some ⟨B, 0, none⟩)]) (T := fun k => k = B ∨ (Value.slice A rs.length cap).ownBlock = some k) (xs := runPlaces rs) (enters_of Tryz.func126 (by kernel_rfl) rfl)
      (fun W' hW' => places_iter (hB.same hW') (own_low (own_chg hrowW hW' (fun _ _ h => h)) (Nat.zero_le _)) hl hN)
      (by
        rintro k (rfl | h)
        · exact hB.lt
        · obtain ⟨c, hc⟩ := own_type hrowW h
          exact lt_of_at hc) hp
    clear hrow hrowW hB
    generalize runPlaces rs = ps at *
    go_enter Tryz.func98, Tryz.ntmps98
    go_wp2_with (go_at_call 125; refine hap.mono ?_; rintro e w1 ⟨v1, rfl, h1, k1⟩)
    go_ret
    exact ⟨v1, rfl, h1, k1⟩
  have hpl := places_call A rs.length cap
  clear hrow hN
  generalize runPlaces rs = ps at *
  go_enter Tryz.func68, Tryz.ntmps68
  go_wp2_with (first
    | (go_at_call 99; refine (hpl _).mono ?_; rintro e w1 ⟨rfl, rfl⟩)
    | (go_at_call 98; have hB := Blk.new w 137 [.slice A rs.length cap]; refine (hcol _ _ hB ((Chg.refl _ w).alloc _)).mono ?_; rintro e w2 ⟨v1, rfl, h1, k1⟩))
  go_ret
  exact ⟨v1, rfl, own_low h1 (by simp), ((Chg.refl _ w).alloc _).trans k1⟩
end Go.Proofs.Obj
