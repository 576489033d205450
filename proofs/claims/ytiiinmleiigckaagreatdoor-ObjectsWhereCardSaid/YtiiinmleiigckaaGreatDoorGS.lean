/- What is proved here: contracts of a store that is read. No condition but what each theorem says. -/
import Derived.Test.YtiiinmleiigckaaGreatDoorGR
import Derived.Deep.RegionLaw
import Derived.Deep.RegionHeld3
import Derived.Shelf.SlIter.Nil
import Derived.Shelf.SortM.Plain
import Derived.Shelf.SortM.SortNone
import Derived.Shelf.Abstract
set_option linter.unusedVariables false
set_option linter.unusedSimpArgs false

/- S5 -/
namespace Go.Proofs.Obj
open Go Go.RowKit

theorem tt_app (a b : List UInt8) (n : Nat) (hn : a.length = n) : tt (a ++ b) n = (a, b) := by
  unfold tt
  rw [if_pos (by rw [List.length_append]; omega), List.take_left' hn, List.drop_left' hn]
theorem flat2 (l : List Nat) : (l.flatMap (littleL · 2)).length = 2 * l.length := by
  induction l with
  | nil => rfl
  | cons a l ih => rw [List.flatMap_cons, List.length_append, littleL_length, ih, List.length_cons]; omega
theorem tab_short : ∀ t : Tab, t.length ≤ (rowBytes t).length
  | [] => Nat.le_refl _
  | x :: t => by
    have := tab_short t
    have e : rowBytes (x :: t) = entBytes x ++ rowBytes t := by simp [rowBytes]
    rw [e, List.length_append, List.length_cons]
    have : 1 ≤ (entBytes x).length := by unfold entBytes; simp [littleL_length]; omega
    omega
theorem rowBytes_cons (x : List UInt8 × Ent) (t : Tab) : rowBytes (x :: t) = littleL x.1.length 2 ++ (x.1 ++ (littleL x.2.size 4 ++ (x.2.secs.flatMap (littleL · 2) ++ rowBytes t))) := by
  simp [rowBytes, entBytes, List.append_assoc]

def strLen (w : World) (a : Addr) : Nat :=
  match w.cell? a with
  | some (.string s) => s.size
  | _ => 0

set_option maxRecDepth 100000 in
set_option maxHeartbeats 2000000 in
theorem keys_spec {w : World} {s mb d : Nat} {turn : Int} {iv : Value} {down : Bool} (hs : SB w s d mb turn iv down) (hm : MapAt 9 w mb []) {tab : Tab} (hok : ∀ x ∈ tab, EntOK x) (hris : Rising (tab.map (·.1))) (hlen : (rowBytes tab).length ≤ 1048576) :
    Calls Tryz.prog 34 #[.pointer (some ⟨s, 0, none⟩), .string (S (rowBytes tab))] w fun e w' => e = .returned (.int .i64 0) ∧ Chg (fun k => k = mb) w w' ∧ ∃ kv, MapAt 9 w' mb kv ∧ TabAt w' kv tab := by
  have hmlt := hm.lt
  have hslt := Blk.lt hs
  have hsm : s ≠ mb := fun e => hm.ne hs e.symm
  go_enter Tryz.func34, Tryz.ntmps34
  go_wp2
  have hr0 := Blk.new w 128 [.string (S (rowBytes tab)), .bool false]
  have hS0 : Same w (w.alloc (.cells [.string (S (rowBytes tab)), .bool false].toArray 128)) := (Chg.refl _ w).alloc _
  have hm0 := hm.same hS0
  generalize hrb : w.heap.size = rb at *
  go_loopw [] (fun wr => ∃ (done rest : Tab) (kv : KV), tab = done ++ rest ∧ MapAt 9 wr mb kv ∧ TabAt wr kv done ∧ Blk wr rb 128 [.string (S (rowBytes rest)), .bool false] ∧ Chg (fun k => k = mb) w wr) (fun wr => strLen wr ⟨rb, 0, none⟩)
  case atStart => exact ⟨[], tab, [], rfl, hm0, trivial, hr0, Chg.of_same hS0⟩
  case round =>
    obtain ⟨done, rest, kv, hx, hmw, htab, hr, hch⟩ := hrel
    have c0 := hr.cell 0
    have c1 := hr.cell 1
    simp only [List.getElem?_cons_zero, List.getElem?_cons_succ] at c0 c1
    have hwsz := hch.size
    cases rest with
    | nil =>
      have e0 : ((S (rowBytes [])).toList == []) = true := by rw [eqL]; rfl
      go_wp2
      go_ret
      rw [List.append_nil] at hx
      subst hx
      exact ⟨rfl, hch, kv, hmw, htab⟩
    | cons x rest =>
      have hxm : x ∈ tab := by rw [hx]; simp
      obtain ⟨hk0, hk1, hes, hsl, hsb⟩ := hok x hxm
      have hlx : (rowBytes (x :: rest)).length ≤ 1048576 := by
        have : rowBytes tab = rowBytes done ++ rowBytes (x :: rest) := by rw [hx]; simp [rowBytes]
        rw [this, List.length_append] at hlen
        omega
      have e0 : ((S (rowBytes (x :: rest))).toList == []) = false := by
        rw [eqL, decide_eq_false]
        intro e
        have := congrArg List.length e
        rw [rowBytes_cons, List.length_append, littleL_length] at this
        simp at this
      obtain ⟨key, e⟩ := x
      dsimp only at hk0 hk1 hes hsl hsb
      rw [rowBytes_cons] at hlx e0 c0 hr
      dsimp only at hlx e0 c0 hr
      have hl1 := hlx
      rw [List.length_append, List.length_append, List.length_append, List.length_append, littleL_length, littleL_length] at hl1
      have hsecl := flat2 e.secs
      have n1 := fun W (hb : Blk W rb 128 [.string (S (littleL key.length 2 ++ (key ++ (littleL e.size 4 ++ (e.secs.flatMap (littleL · 2) ++ rowBytes rest))))), .bool false]) => num_spec hb 2 (by omega) (by omega)
      have n2 := fun W (hb : Blk W rb 128 [.string (S (key ++ (littleL e.size 4 ++ (e.secs.flatMap (littleL · 2) ++ rowBytes rest)))), .bool false]) => text_spec hb key.length (by omega) (by rw [List.length_append, List.length_append, List.length_append, littleL_length]; omega)
      have n3 := fun W (hb : Blk W rb 128 [.string (S (littleL e.size 4 ++ (e.secs.flatMap (littleL · 2) ++ rowBytes rest))), .bool false]) => num_spec hb 4 (by omega) (by rw [List.length_append, List.length_append, littleL_length]; omega)
      have d1 : decide ((littleL key.length 2 ++ (key ++ (littleL e.size 4 ++ (e.secs.flatMap (littleL · 2) ++ rowBytes rest)))).length < 2) = false := by rw [List.length_append, littleL_length]; simp
      have d2 : decide ((key ++ (littleL e.size 4 ++ (e.secs.flatMap (littleL · 2) ++ rowBytes rest))).length < key.length) = false := by rw [List.length_append]; simp
      have d3 : decide ((littleL e.size 4 ++ (e.secs.flatMap (littleL · 2) ++ rowBytes rest)).length < 4) = false := by rw [List.length_append, littleL_length]; simp
      rw [tt_app _ _ 2 (littleL_length _ _), numL_little, d1, Bool.or_false, Nat.mod_eq_of_lt (by simpa using hk1)] at n1
      rw [tt_app _ _ key.length rfl, d2, Bool.or_false] at n2
      rw [tt_app _ _ 4 (littleL_length _ _), numL_little, d3, Bool.or_false, Nat.mod_eq_of_lt (by simpa using hes)] at n3
      clear d1 d2 d3
      dsimp only at n1 n2 n3
      have hrsz := S_size (littleL key.length 2 ++ (key ++ (littleL e.size 4 ++ (e.secs.flatMap (littleL · 2) ++ rowBytes rest))))
      rw [List.length_append, littleL_length, List.length_append, List.length_append, littleL_length] at hrsz
      have Hrsz := Lib.hid hrsz
      clear hrsz
      generalize S (littleL key.length 2 ++ (key ++ (littleL e.size 4 ++ (e.secs.flatMap (littleL · 2) ++ rowBytes rest)))) = b1 at *
      generalize S (key ++ (littleL e.size 4 ++ (e.secs.flatMap (littleL · 2) ++ rowBytes rest))) = b2 at *
      generalize S (littleL e.size 4 ++ (e.secs.flatMap (littleL · 2) ++ rowBytes rest)) = b3 at *
      have hmany := fun W => many_spec (w := W) e.size 64 (by omega) (by omega) (by omega)
      rw [← hsl] at hmany
      have Hsl := Lib.hid hsl
      clear hsl
      have hrW := hr
      have Hx := Lib.hid hx
      clear hx
      go_wp2_with (first
        | (go_at_call_of 60 (Value.int .i64 2); have _t := hr; refine (n1 _ hr).mono ?_; rintro e W1 ⟨rfl, hr1, k1⟩; clear hr)
        | (go_at_call 61; refine (n2 _ hr1).mono ?_; rintro e W2 ⟨rfl, hr2, k2⟩)
        | (go_at_call_of 60 (Value.int .i64 4); refine (n3 _ hr2).mono ?_; rintro e W3 ⟨rfl, hr3, k3⟩)
        | (go_at_call 62; refine (hmany _).mono ?_; rintro e W4 ⟨rfl, rfl⟩))
      have k13 : Chg (fun k => k = rb) wr W3 := (k1.trans k2).trans k3
      have hV : Chg (fun k => k = rb) wr (W3.alloc (.cells #[.int .i64 e.size, .slice none 0 0] 99)) := k13.alloc _
      have hrV : Blk (W3.alloc (.cells #[.int .i64 e.size, .slice none 0 0] 99)) rb 128 _ := hr3.alloc _
      have hqV : Blk (W3.alloc (.cells #[.int .i64 e.size, .slice none 0 0] 99)) W3.heap.size 99 [.int .i64 e.size, .slice none 0 0] := Blk.new W3 99 [.int .i64 e.size, .slice none 0 0]
      have hVs : (W3.alloc (.cells #[.int .i64 e.size, .slice none 0 0] 99)).heap.size = W3.heap.size + 1 := by simp
      have hr3l := hr3.lt
      have hw3 := k13.size
      clear n1 n2 n3 hmany hr1 hr2 hr3 k1 k2 k3 k13
      generalize W3.alloc (.cells #[.int .i64 e.size, .slice none 0 0] 99) = V at *
      generalize W3.heap.size = q at *
      obtain ⟨wo, rfl⟩ : ∃ y, y = wr := ⟨_, rfl⟩
      go_loopw [26] (fun i wi => ∃ (pre post : List Nat) (sv : Value), e.secs = pre ++ post ∧ i = .int .i64 pre.length ∧ Blk wi rb 128 [.string (S (post.flatMap (littleL · 2) ++ rowBytes rest)), .bool false] ∧ Blk wi q 99 [.int .i64 e.size, sv] ∧ wi.ownsRow V.heap.size 3 1 sv pre.length (natInts pre) ∧ Chg (fun k => k = rb ∨ k = q) V wi) (fun i _ => e.secs.length - (intOf i).toNat)
      case atStart => exact ⟨[], e.secs, _, rfl, rfl, hrV, hqV, ownsRow_nil' _ _ _ _, .refl _ _⟩
      case round =>
        obtain ⟨pre, post, sv, hxs, rfl, hri, hqi, hown, hci⟩ := hrel
        have r1 := hri.cell 1
        have q1 := hqi.cell 1
        simp only [List.getElem?_cons_zero, List.getElem?_cons_succ] at r1 q1
        have hsz := hci.size
        have hxl := congrArg List.length hxs
        rw [List.length_append] at hxl
        cases post with
        | nil =>
          obtain rfl : pre = e.secs := by rw [hxs, List.append_nil]
          have hmV := (hmw.chg hV (by omega)).chg hci (by omega)
          have hsV : SB wr s d mb turn iv down := Blk.chg (Blk.chg (Blk.chg hs hch hsm) hV (by omega)) hci (by omega)
          have o1 : Off3 wo (fun k => k = rb) := fun b c hb e => by subst e; have := hrW.at_.symm.trans hb.at_; simp at this
          have o2 : Off3 V (fun k => k = rb ∨ k = q) := fun b c hb e => by
            rcases e with rfl | rfl
            · have := hrV.at_.symm.trans hb.at_; simp at this
            · have := hqV.at_.symm.trans hb.at_; simp at this
          have htV := TabAt.chg hci o2 (TabAt.chg hV o1 htab)
          have hent : EntAt wr (.agg #[.int .i64 e.size, sv]) e := ⟨sv, rfl, Secs.of_own hown⟩
          obtain ⟨W', hrun, hm', hc'⟩ := MapAt.put (w := wr.drew) (t := 71) (e := 99) hmV Tryz.underlying9 Tryz.underlying71 (by
            have h1 := tab_short tab
            have h2 : done.length ≤ tab.length := by rw [Hx.out, List.length_append]; omega
            rw [htab.length]; simp only [maxLen]; omega) (S key) (by rw [S_size]; simp only [maxLen]; omega) (.agg #[.int .i64 e.size, sv])
          have s1 := hsV.cell 1
          have q0 := hqi.cell 0
          simp only [List.getElem?_cons_zero, List.getElem?_cons_succ] at s1 q0
          have hkn : ((S key).toList == []) = false := by
            rw [eqL, decide_eq_false]
            intro e
            rw [e] at hk0
            simp at hk0
          have hbef : ∀ y ∈ kv, bytesBefore y.1 key = true := by
            intro y hy
            have h1 : y.1 ∈ done.map (·.1) := by rw [← htab.keys]; exact List.mem_map.2 ⟨y, hy, rfl⟩
            have h2 := hris
            rw [Hx.out, List.map_append, Rising, List.pairwise_append] at h2
            exact h2.2.2 _ h1 _ (by simp)
          have hlast := kvPut_last key (.agg #[.int .i64 e.size, sv]) kv hbef
          rw [show (S key).data.toList = key from rfl, hlast] at hm'
          have o3 : Off3 wr.drew (fun k => k = mb) := fun b c hb e => by
            subst e
            exact hmV.ne hb rfl
          have htF := TabAt.chg hc' o3 (TabAt.chg (S := fun _ => False) (w' := wr.drew) ((Chg.refl _ wr).drew) (fun _ _ _ h => h) (TabAt.snoc (k := key) hent htV))
          have hrF : Blk W' rb 128 _ := Blk.chg (w := wr.drew) hri hc' (by omega)
          have kF : Chg (fun k => k = mb) w W' := ((hch.trans' hV (fun _ _ h => h) (fun j hj e => by omega)).trans' hci (fun _ _ h => h) (fun j hj e => by omega)).drew.trans hc'
          have hcF := hrF.cell 0
          clear hxs hxl hlast hbef
          go_wp2
          go_region
          go_wp2
          go_roundw
          · exact ⟨done ++ [(key, e)], rest, kv ++ [(key, .agg #[.int .i64 e.size, sv])], by rw [Hx.out]; simp, hm', htF, hrF, kF⟩
          · simp only [List.getElem?_cons_zero] at hcF
            have e1 : strLen W' ⟨rb, 0, none⟩ = (rowBytes rest).length := by unfold strLen; rw [hcF]; simp [S_size]
            have e2 : strLen wo ⟨rb, 0, none⟩ = b1.size := by unfold strLen; rw [c0]
            rw [e1, e2, Hrsz.out, List.length_append]
            omega
        | cons a post =>
          rw [List.length_cons] at hxl
          have ha : a < 65536 := hsb a (by rw [hxs]; simp)
          have n4 := fun W (hb : Blk W rb 128 [.string (S ((a :: post).flatMap (littleL · 2) ++ rowBytes rest)), .bool false]) => num_spec hb 2 (by omega) (by
            have : ((a :: post).flatMap (littleL · 2)).length ≤ (e.secs.flatMap (littleL · 2)).length := by rw [hxs]; simp
            rw [List.length_append]; omega)
          have e1 : (a :: post).flatMap (littleL · 2) ++ rowBytes rest = littleL a 2 ++ (post.flatMap (littleL · 2) ++ rowBytes rest) := by simp
          rw [e1] at n4 hri
          have d1 : decide ((littleL a 2 ++ (post.flatMap (littleL · 2) ++ rowBytes rest)).length < 2) = false := by rw [List.length_append, littleL_length]; simp
          rw [tt_app _ _ 2 (littleL_length _ _), numL_little, d1, Bool.or_false, Nat.mod_eq_of_lt (by simpa using ha)] at n4
          clear d1 e1
          dsimp only at n4
          have hpl : pre.length < e.secs.length := by omega
          have Hxs := Lib.hid hxs
          have Hxl := Lib.hid hxl
          clear hxs hxl
          generalize S (littleL a 2 ++ (post.flatMap (littleL · 2) ++ rowBytes rest)) = b4 at *
          have n4' := n4 wr.drew hri
          clear n4
          go_wp2
          go_region_law (first
            | (go_simp; go_at_call 60; refine n4'.mono ?_; rintro e W5 ⟨rfl, hr5, k5⟩; have hq5 := Blk.chg (w := wr.drew) hqi k5 (by omega); have q5 := hq5.cell 1; have q5A := fun o => hq5.cellA 1 o; simp only [List.getElem?_cons_zero, List.getElem?_cons_succ] at q5 q5A; have own5 : W5.ownsRow V.heap.size 3 1 sv pre.length (natInts pre) := own_chg (w := wr.drew) hown k5 (fun b hb e => own_ne hown hri (by decide) (e ▸ hb)); have hV5 : V.heap.size ≤ W5.heap.size := Nat.le_trans hsz k5.size)
            | (refine step_app_own rfl (.tmp 33) (.tmp 36) 56 3 _ 1 8 rfl Tryz.underlying56 Tryz.info3 rfl (by decide) (by decide) V.heap.size sv pre.length (natInts pre) [.int .i64 (a : Nat)] ⟨W5.heap.size, 0, none⟩ (by simp [Act.eval, Act.put]) (by simp [Act.eval, Act.put]) rfl (by intro u hu; simp at hu; subst hu; rfl) (cell_one_new _ _ _) (own5.alloc _) (by simp; omega) (by omega) ?_; intro g cap W6 hrow6 k6 hg6; have hq6 := (hq5.alloc (.cells #[.int .i64 (a : Nat)] 3)).chg k6 (own_ne (own5.alloc _) (hq5.alloc (.cells #[.int .i64 (a : Nat)] 3)) (by decide)); have q6 := hq6.cell 1; have f6 := hq6.frozen 1; simp only [List.getElem?_cons_zero, List.getElem?_cons_succ] at q6))
          all_goals (
            have e5 : natInts pre ++ [Value.int .i64 (a : Nat)] = natInts (pre ++ [a]) := by simp [natInts]
            rw [e5] at hrow6
            have hr6 := (hr5.alloc (.cells #[.int .i64 (a : Nat)] 3)).chg k6 (own_ne (own5.alloc _) (hr5.alloc (.cells #[.int .i64 (a : Nat)] 3)) (by decide))
            have hr7 := hr6.setOther ⟨q, 1, none⟩ (.slice (some ⟨g, 0, none⟩) (pre.length + 1) cap) (by show rb ≠ q; omega)
            have hq7 := hq6.setCell 1 (.slice (some ⟨g, 0, none⟩) (pre.length + 1) cap)
            have k67 : Chg (fun k => k = q) W6 (W6.setCell ⟨q, 1, none⟩ (.slice (some ⟨g, 0, none⟩) (pre.length + 1) cap)) := Chg.set1 _ _ _ _
            have hrow7 := own_chg hrow6 k67 (fun b hb e => own_ne hrow6 hq6 (by decide) (e ▸ hb))
            have kk5 : Chg (fun k => k = rb ∨ k = q) V W5 := hci.drew.trans' k5 (fun _ _ h => h) (fun j hj e => .inl e)
            have kk6 : Chg (fun k => k = rb ∨ k = q) V W6 := (kk5.alloc (.cells #[.int .i64 (a : Nat)] 3)).trans' k6 (fun _ _ h => h) (fun j hj e => absurd hj (by have := own_base own5 e; omega))
            have kk7 := kk6.trans' (U := fun k => k = rb ∨ k = q) k67 (fun _ _ h => h) (fun j hj e => .inr e)
            go_simp
            go_wp2
            go_roundw
            · refine ⟨pre ++ [a], post, .slice (some ⟨g, 0, none⟩) (pre.length + 1) cap, by rw [Hxs.out]; simp, by simp, hr7, hq7, ?_, kk7⟩
              have : (pre ++ [a]).length = pre.length + 1 := by simp
              rw [this]; exact hrow7
            · simp only [intOf]; omega)
end Go.Proofs.Obj

/- S6 -/
namespace Go.Proofs.Obj
open Go Go.RowKit

/-- What a disk's sectors bear. -/
structure Bears (rd : Nat → ByteArray) (n turn : Nat) (idx : List Nat) (tab : Tab) : Prop where
  head : headF rd = (⟨turn, idx.headD 0, (rowBytes tab).length⟩, 0)
  chain : ChainAt rd n idx (rowBytes tab)
  ok : ∀ x ∈ tab, EntOK x
  rising : Rising (tab.map (·.1))
  len : (rowBytes tab).length ≤ 1048576
  few : idx.length ≤ n

/-- A store, as it lies. -/
def StoreAt (w : World) (s d : Nat) (turn : Int) (idx : List Nat) (tab : Tab) (down : Bool) : Prop :=
  ∃ mb iv kv, SB w s d mb turn iv down ∧ Secs w iv idx ∧ MapAt 9 w mb kv ∧ TabAt w kv tab

theorem ofAt_mem {i : Int} {l : List ((Nat × ByteArray) × Nat)} {s : ByteArray} (h : s ∈ ofAt i l) : ∃ x ∈ l, x.1.2 = s := by
  unfold ofAt at h
  obtain ⟨x, hx, rfl⟩ := List.mem_map.1 h
  exact ⟨x, (List.mem_filter.1 hx).1, rfl⟩
theorem DiskAt.sector_size {w : World} {L : DL} {D : Dk} (h : DiskAt w L D) (k : Nat) : (D.sector k).size ≤ 64 := by
  unfold Dk.sector
  split
  · rename_i s r hs
    obtain ⟨x, hx, rfl⟩ := ofAt_mem (i := k) (l := D.loose.zipIdx.reverse) (s := s) (by rw [hs]; simp)
    have hx' : x.1 ∈ D.loose := by
      rw [List.mem_reverse] at hx
      have := List.mem_zipIdx hx
      obtain ⟨h1, h2, h3⟩ := this
      rw [h3]
      exact List.getElem_mem _
    rw [h.szl _ hx']
    exact Nat.le_refl _
  · by_cases hk : k < D.firm.length
    · have := h.szf D.firm[k] (List.getElem_mem hk)
      simp [List.getD, hk, this]
    · rw [List.getD, List.getElem?_eq_none (by omega)]
      exact Nat.zero_le _

theorem openMid {w W1 : World} {s d mb : Nat} {turn at0 len : Int} (hs1 : SB W1 s d mb 0 (.slice none 0 0) false) (hm : MapAt 9 W1 mb []) (hk : Same w W1) :
    (∀ o, (W1.alloc o).cell? ⟨s, 2, none⟩ = some (.int .i64 0)) ∧ (∀ o, (W1.alloc o).frozen? ⟨s, 2, none⟩ = false) ∧
    SB ((W1.alloc (.cells #[.int .i64 turn, .int .i64 at0, .int .i64 len] 75)).setCell ⟨s, 2, none⟩ (.int .i64 turn)) s d mb turn (.slice none 0 0) false ∧
    ((W1.alloc (.cells #[.int .i64 turn, .int .i64 at0, .int .i64 len] 75)).setCell ⟨s, 2, none⟩ (.int .i64 turn)).cell? ⟨W1.heap.size, 0, none⟩ = some (.int .i64 turn) ∧
    ((W1.alloc (.cells #[.int .i64 turn, .int .i64 at0, .int .i64 len] 75)).setCell ⟨s, 2, none⟩ (.int .i64 turn)).cell? ⟨W1.heap.size, 1, none⟩ = some (.int .i64 at0) ∧
    ((W1.alloc (.cells #[.int .i64 turn, .int .i64 at0, .int .i64 len] 75)).setCell ⟨s, 2, none⟩ (.int .i64 turn)).cell? ⟨W1.heap.size, 2, none⟩ = some (.int .i64 len) ∧
    MapAt 9 ((W1.alloc (.cells #[.int .i64 turn, .int .i64 at0, .int .i64 len] 75)).setCell ⟨s, 2, none⟩ (.int .i64 turn)) mb [] ∧
    Chg (fun k => k = s) w ((W1.alloc (.cells #[.int .i64 turn, .int .i64 at0, .int .i64 len] 75)).setCell ⟨s, 2, none⟩ (.int .i64 turn)) := by
  have hlt1 := Blk.lt hs1
  have hq2 := (Blk.new W1 75 [.int .i64 turn, .int .i64 at0, .int .i64 len]).setOther ⟨s, 2, none⟩ (.int .i64 turn) (by show W1.heap.size ≠ s; omega)
  obtain ⟨e0, e1, e2, _⟩ := hq2.st3
  have kA : Chg (fun k => k = s) W1 ((W1.alloc (.cells #[.int .i64 turn, .int .i64 at0, .int .i64 len] 75)).setCell ⟨s, 2, none⟩ (.int .i64 turn)) := ((Chg.refl (fun k => k = s) W1).alloc _).setCell (p := ⟨s, 2, none⟩) (fun _ => rfl) _
  exact ⟨fun o => hs1.cellA 2 o, fun o => hs1.frozenA 2 o, (Blk.alloc hs1 _).setCell 2 (.int .i64 turn), e0, e1, e2, hm.chg kA (fun e => hm.ne hs1 e), Chg.after_same hk kA⟩

set_option maxRecDepth 100000 in
set_option maxHeartbeats 1000000 in
theorem open_up {w : World} {L : DL} {D : Dk} (hD : DiskAt w L D) (hl : D.loose.length ≤ 65536) (hup : D.down = false) (hn : 2 ≤ D.firm.length) {turn : Nat} {idx : List Nat} {tab : Tab} (hB : Bears D.sector D.firm.length turn idx tab) :
    Calls Tryz.prog 13 #[.pointer (some ⟨L.d, 0, none⟩)] w fun e w' => ∃ s, e = .returned (.tuple #[.pointer (some ⟨s, 0, none⟩), .int .i64 0]) ∧ StoreAt w' s L.d turn idx tab false ∧ w.heap.size ≤ s ∧ Same w w' := by
  have hsz : ∀ k, (D.sector k).size ≤ 4096 := fun k => Nat.le_trans (hD.sector_size k) (by omega)
  have hmk := @run_makeMap Tryz.prog
  have hm0 := MapAt.made 9 w
  have hsm : (w.alloc (.map #[] 0)).heap.size = w.heap.size + 1 := by simp
  have hs0 : SB ((w.alloc (.map #[] 0)).alloc (.cells #[.pointer (some ⟨L.d, 0, none⟩), .map (some w.heap.size), .int .i64 0, .slice none 0 0, .bool false] 73)) (w.heap.size + 1) L.d w.heap.size 0 (.slice none 0 0) false := by
    have := Blk.new (w.alloc (.map #[] 0)) 73 [.pointer (some ⟨L.d, 0, none⟩), .map (some w.heap.size), .int .i64 0, .slice none 0 0, .bool false]
    rwa [hsm] at this
  have hS0 : Same w ((w.alloc (.map #[] 0)).alloc (.cells #[.pointer (some ⟨L.d, 0, none⟩), .map (some w.heap.size), .int .i64 0, .slice none 0 0, .bool false] 73)) := ((Chg.refl _ w).alloc _).alloc _
  have hm1 := hm0.same ((Chg.refl _ _).alloc (.cells #[.pointer (some ⟨L.d, 0, none⟩), .map (some w.heap.size), .int .i64 0, .slice none 0 0, .bool false] 73))
  have hhead := head_up hs0 (hD.same hS0) hl hup hn hsz
  rw [hB.head] at hhead
  dsimp only at hhead
  unfold topV at hhead
  have hrowc := fun W (hsW : SB W (w.heap.size + 1) L.d w.heap.size turn (.slice none 0 0) false) (k : Chg (fun k => k = w.heap.size + 1) w W) => row_up hsW (hD.chg k (fun b hb e => by have := hD.lt hb; omega)) hl hup hB.chain hB.len hB.few turn
  unfold topV at hrowc
  have hkeys := fun W iv (hsW : SB W (w.heap.size + 1) L.d w.heap.size turn iv false) (hmW : MapAt 9 W w.heap.size []) => keys_spec hsW hmW hB.ok hB.rising hB.len
  have hat : idx.headD 0 < 65536 := by
    have hc := hB.chain
    have hlen := hD.len
    cases idx with
    | nil => simp
    | cons a r => have := hc.2.2.1; simp; omega
  generalize idx.headD 0 = at0 at *
  generalize hrb : rowBytes tab = R at *
  go_enter Tryz.func13, Tryz.ntmps13
  have mid := fun W1 (k1 : Same _ W1) => openMid (turn := (turn : Int)) (at0 := (at0 : Int)) (len := (R.length : Int)) (Blk.same hs0 k1) (hm1.same k1) (hS0.trans k1)
  clear hs0 hm0 hm1
  go_wp2_with (first
    | (go_at_call 32; refine hhead.mono ?_; rintro e W1 ⟨rfl, k1⟩; obtain ⟨c2, f2, hs2, e0, e1, e2, hm3, kw2⟩ := mid W1 k1; have hrw := hrowc _ hs2 kw2)
    | (go_at_call 33; refine hrw.mono ?_; rintro e W2 ⟨rfl, k2, iv, hsW2, hrow2⟩; have hm4 := hm3.chg k2 (by omega); have hk := hkeys W2 iv hsW2 hm4)
    | (go_at_call 34; refine hk.mono ?_; rintro e W3 ⟨rfl, k3, kv, hm5, htab5⟩))
  go_ret2
  have hsW3 : SB W3 (w.heap.size + 1) L.d w.heap.size turn iv false := Blk.chg hsW2 k3 (by omega)
  refine ⟨w.heap.size + 1, rfl, ⟨w.heap.size, iv, kv, hsW3, Secs.of_own (own_chg hrow2 k3 (fun b hb e => ?_)), hm5, htab5⟩, by omega, (kw2.trans k2).trans' k3 (U := fun _ => False) (fun j hj e => by omega) (fun j hj e => by omega)⟩
  obtain ⟨c, hc⟩ := own_type hrow2 hb
  exact hm4.ne (t := 3) (c := c.toList) hc e.symm
end Go.Proofs.Obj

/- S7 -/
namespace Go.Proofs.Obj
open Go Go.RowKit

theorem gate_nil (w : World) : Calls Tryz.prog 43 #[.pointer none] w fun e w' => e = .returned (.int .i64 1) ∧ w = w' := by
  go_enter Tryz.func43, Tryz.ntmps43
  go_wp2
  go_ret
  exact ⟨rfl, rfl⟩
theorem gate_spec {w : World} {s mb d : Nat} {turn : Int} {iv : Value} {down : Bool} (hs : SB w s d mb turn iv down) : Calls Tryz.prog 43 #[.pointer (some ⟨s, 0, none⟩)] w fun e w' => e = .returned (.int .i64 (if down = true then 7 else 0)) ∧ w = w' := by
  have c4 := hs.cell 4
  simp only [List.getElem?_cons_zero, List.getElem?_cons_succ] at c4
  cases down
  · go_enter Tryz.func43, Tryz.ntmps43
    go_wp2
    go_ret
    exact ⟨rfl, rfl⟩
  · go_enter Tryz.func43, Tryz.ntmps43
    go_wp2
    go_ret
    exact ⟨rfl, rfl⟩

def tabGet (k : List UInt8) (t : Tab) : Option Ent := (t.find? fun p => p.1 == k).map (·.2)
theorem TabAt.get {w : World} (k : List UInt8) : ∀ {kv : KV} {t : Tab}, TabAt w kv t → (kvGet k kv = none ∧ tabGet k t = none) ∨ ∃ v e, kvGet k kv = some v ∧ tabGet k t = some e ∧ EntAt w v e
  | [], [], _ => .inl ⟨rfl, rfl⟩
  | x :: r, y :: t, h => by
    have ih := TabAt.get k h.2.2
    unfold kvGet tabGet at *
    rw [List.find?_cons, List.find?_cons, ← h.1]
    cases x.1 == k
    · exact ih
    · exact .inr ⟨_, _, rfl, rfl, h.2.1⟩

theorem Blk.st2A {w : World} {b : Nat} {t : TypeId} {x0 x1 : Value} (h : Blk w b t [x0, x1]) :
    (∀ o, (w.alloc o).cell? ⟨b, 0, none⟩ = some x0) ∧ (∀ o, (w.alloc o).cell? ⟨b, 1, none⟩ = some x1) ∧ (∀ o, (w.alloc o).frozen? ⟨b, 0, none⟩ = false) ∧ (∀ o, (w.alloc o).frozen? ⟨b, 1, none⟩ = false) ∧
    (∀ o y, ((w.alloc o).setCell ⟨b, 0, none⟩ y).cell? ⟨b, 1, none⟩ = some x1) ∧ (∀ o y, ((w.alloc o).setCell ⟨b, 0, none⟩ y).frozen? ⟨b, 1, none⟩ = false) :=
  ⟨fun o => (h.alloc o).cell 0, fun o => (h.alloc o).cell 1, fun o => (h.alloc o).frozen 0, fun o => (h.alloc o).frozen 1, fun o y => ((h.alloc o).setCell 0 y).cell 1, fun o y => ((h.alloc o).setCell 0 y).frozen 1⟩
theorem Blk.st2 {w : World} {b : Nat} {t : TypeId} {x0 x1 : Value} (h : Blk w b t [x0, x1]) :
    w.cell? ⟨b, 0, none⟩ = some x0 ∧ w.cell? ⟨b, 1, none⟩ = some x1 ∧ w.frozen? ⟨b, 0, none⟩ = false ∧ w.frozen? ⟨b, 1, none⟩ = false ∧
    (∀ y, (w.setCell ⟨b, 0, none⟩ y).cell? ⟨b, 1, none⟩ = some x1) ∧ (∀ y, (w.setCell ⟨b, 0, none⟩ y).frozen? ⟨b, 1, none⟩ = false) :=
  ⟨h.cell 0, h.cell 1, h.frozen 0, h.frozen 1, fun y => (h.setCell 0 y).cell 1, fun y => (h.setCell 0 y).frozen 1⟩
theorem Blk.put2 {w : World} {b : Nat} {t : TypeId} {x0 x1 : Value} (h : Blk w b t [x0, x1]) (y0 y1 : Value) : Blk ((w.setCell ⟨b, 0, none⟩ y0).setCell ⟨b, 1, none⟩ y1) b t [y0, y1] := (h.setCell 0 y0).setCell 1 y1
theorem Chg.put2 (w : World) (b : Nat) (y0 y1 : Value) : Chg (fun k => k = b) w ((w.setCell ⟨b, 0, none⟩ y0).setCell ⟨b, 1, none⟩ y1) := (Chg.set1 w b 0 y0).setCell (p := ⟨b, 1, none⟩) (fun _ => rfl) y1

/-- No entry. -/
def noEnt : Value := .agg #[.int .i64 0, .slice none 0 0]
def findF (tab : Tab) (down : Bool) (k : List UInt8) : Ent × Int :=
  if down = true then (⟨0, []⟩, 7) else match tabGet k tab with | some e => (e, 0) | none => (⟨0, []⟩, 2)
theorem noEnt_at (w : World) : EntAt w noEnt ⟨0, []⟩ := ⟨_, rfl, none, 0, rfl, .inl rfl⟩
def FindPost (w : World) (x : Ent × Int) (e : Ending) (w' : World) : Prop := ∃ sv, e = .returned (.tuple #[.agg #[.int .i64 x.1.size, sv], .int .i64 x.2]) ∧ Secs w' sv x.1.secs ∧ Same w w'

set_option maxRecDepth 100000 in
set_option maxHeartbeats 1000000 in
theorem find_nil (w : World) (key : ByteArray) : Calls Tryz.prog 47 #[.pointer none, .string key] w (FindPost w (⟨0, []⟩, 1)) := by
  have hB := Blk.new w 99 [.int .i64 0, .slice none 0 0]
  obtain ⟨c0, c1, f0, f1, c01, f01⟩ := hB.st2
  have hS : Same w (w.alloc (.cells [.int .i64 0, .slice none 0 0].toArray 99)) := (Chg.refl _ w).alloc _
  go_enter Tryz.func47, Tryz.ntmps47
  go_wp2_with (first
    | (go_at_call 43; refine (gate_nil _).mono ?_; rintro e w1 ⟨rfl, rfl⟩))
  refine bodyPost_ret_by (results_row_tmp rfl _ _ w.heap.size 99 _ _ rfl hB Tryz.underlying99 rfl (by kernel_rfl)) rfl ?_
  exact ⟨_, rfl, ⟨none, 0, rfl, .inl rfl⟩, hS⟩

set_option maxRecDepth 100000 in
set_option maxHeartbeats 1000000 in
theorem find_spec {w : World} {s d : Nat} {turn : Int} {idx : List Nat} {tab : Tab} {down : Bool} (hs : StoreAt w s d turn idx tab down) (key : ByteArray) (hk : key.size ≤ maxLen) :
    Calls Tryz.prog 47 #[.pointer (some ⟨s, 0, none⟩), .string key] w (FindPost w (findF tab down key.data.toList)) := by
  obtain ⟨mb, iv, kv, hsb, _, hm, ht⟩ := hs
  have hz : ∀ W, (zeroValue 99).run Tryz.prog W = .ok (.agg #[.int .i64 0, .slice none 0 0]) W := fun W => Tryz.zeroValue99 W
  have hB := Blk.new w 99 [.int .i64 0, .slice none 0 0]
  obtain ⟨c0, c1, f0, f1, c01, f01⟩ := hB.st2
  obtain ⟨a0, a1, g0, g1, a01, g01⟩ := hB.st2A
  have hS : Same w (w.alloc (.cells [.int .i64 0, .slice none 0 0].toArray 99)) := (Chg.refl _ w).alloc _
  have hg := gate_spec (Blk.same hsb hS)
  cases hd : down
  · have hff : findF tab false key.data.toList = match tabGet key.data.toList tab with | some e => (e, 0) | none => (⟨0, []⟩, 2) := rfl
    subst hd
    simp only [Bool.false_eq_true, if_false] at hg
    have hB2 : Blk ((w.alloc (.cells [.int .i64 0, .slice none 0 0].toArray 99)).alloc (.cells #[.int .i64 0, .slice none 0 0] 99)) (w.heap.size + 1) 99 [.int .i64 0, .slice none 0 0] := by
      have := Blk.new (w.alloc (.cells [.int .i64 0, .slice none 0 0].toArray 99)) 99 [.int .i64 0, .slice none 0 0]
      rwa [World.size_alloc] at this
    obtain ⟨p0, p1, r0, r1, p01, r01⟩ := hB2.st2
    have s1 := (Blk.same hsb hS : SB _ _ _ _ _ _ _).cell 1
    simp only [List.getElem?_cons_zero, List.getElem?_cons_succ] at s1
    have hlk := MapAt.look (t := 71) (e := 99) (hm.same hS) Tryz.underlying9 Tryz.underlying71 (hz _) key hk true
    rcases TabAt.get key.data.toList ht with ⟨h1, h2⟩ | ⟨v, e, h1, h2, _, rfl, A, cap, rfl, hsv⟩
    · rw [h2] at hff
      rw [hff]
      rw [h1] at hlk
      simp only [lookV, if_true] at hlk
      clear hff h1 h2
      go_enter Tryz.func47, Tryz.ntmps47
      go_wp2_with (first
        | (go_at_call 43; refine hg.mono ?_; rintro e w1 ⟨rfl, rfl⟩))
      refine bodyPost_ret_by (results_row_tmp rfl _ _ w.heap.size 99 _ _ rfl (hB.alloc _) Tryz.underlying99 rfl (by kernel_rfl)) rfl ?_
      exact ⟨_, rfl, ⟨none, 0, rfl, .inl rfl⟩, hS.alloc _⟩
    · rw [h2] at hff
      rw [hff]
      rw [h1] at hlk
      simp only [lookV, if_true] at hlk
      clear hff h1 h2
      go_enter Tryz.func47, Tryz.ntmps47
      go_wp2_with (first
        | (go_at_call 43; refine hg.mono ?_; rintro e w1 ⟨rfl, rfl⟩))
      have hF := (Blk.new w 99 [.int .i64 e.size, .slice A e.secs.length cap]).alloc (.cells #[.int .i64 e.size, .slice A e.secs.length cap] 99)
      have hSF : Same w ((w.alloc (.cells [.int .i64 e.size, .slice A e.secs.length cap].toArray 99)).alloc (.cells #[.int .i64 e.size, .slice A e.secs.length cap] 99)) := ((Chg.refl _ w).alloc _).alloc _
      refine bodyPost_ret_by (results_row_tmp rfl _ _ w.heap.size 99 _ _ rfl hF Tryz.underlying99 rfl (by kernel_rfl)) rfl ?_
      exact ⟨_, rfl, Secs.chg ⟨A, cap, rfl, hsv⟩ hSF (fun _ _ _ h => h), hSF⟩
  · have hff : findF tab true key.data.toList = (⟨0, []⟩, 7) := rfl
    subst hd
    simp only [if_true] at hg
    rw [hff]
    clear hff
    go_enter Tryz.func47, Tryz.ntmps47
    go_wp2_with (first
      | (go_at_call 43; refine hg.mono ?_; rintro e w1 ⟨rfl, rfl⟩))
    refine bodyPost_ret_by (results_row_tmp rfl _ _ w.heap.size 99 _ _ rfl hB Tryz.underlying99 rfl (by kernel_rfl)) rfl ?_
    exact ⟨_, rfl, ⟨none, 0, rfl, .inl rfl⟩, hS⟩
end Go.Proofs.Obj

/- S8 -/
namespace Go.Proofs.Obj
open Go Go.RowKit

/-- A blob's bytes, as its sectors have them. -/
def secBytes (rd : Nat → ByteArray) (l : List Nat) : List UInt8 := l.flatMap fun a => (rd a).data.toList
def blobOf (rd : Nat → ByteArray) (e : Ent) : List UInt8 := (secBytes rd e.secs).take e.size
theorem secBytes_snoc (rd : Nat → ByteArray) (l : List Nat) (a : Nat) : secBytes rd (l ++ [a]) = secBytes rd l ++ (rd a).data.toList := by simp [secBytes]
theorem secBytes_len (rd : Nat → ByteArray) (l : List Nat) (h : ∀ a, (rd a).size ≤ 64) : (secBytes rd l).length ≤ 64 * l.length := by
  induction l with
  | nil => exact Nat.le_refl _
  | cons a l ih =>
    have e : secBytes rd (a :: l) = (rd a).data.toList ++ secBytes rd l := by simp [secBytes]
    have := h a
    have h2 : (rd a).data.toList.length = (rd a).size := rfl
    rw [e, List.length_append, List.length_cons, h2]
    omega

/-- (*Store).Get where there is none. -/
theorem get_none {w : World} {p : Option Addr} (key : ByteArray) {x : Ent × Int} (hf : Calls Tryz.prog 47 #[.pointer p, .string key] w (FindPost w x)) (hx : x.2 ≠ 0) :
    Calls Tryz.prog 22 #[.pointer p, .string key] w fun e w' => e = .returned (.tuple #[.string ⟨#[]⟩, .int .i64 x.2]) ∧ Same w w' := by
  have hx2 : (x.2 == 0) = false := by simpa using hx
  go_enter Tryz.func22, Tryz.ntmps22
  go_wp2_with (first
    | (go_at_call 47; refine hf.mono ?_; rintro e w1 ⟨_, rfl, ⟨A, cap, rfl, _⟩, k1⟩))
  go_ret2
  exact ⟨rfl, k1.alloc _⟩

set_option maxRecDepth 100000 in
set_option maxHeartbeats 1000000 in
theorem get_up {w : World} {s mb : Nat} {turn : Int} {iv : Value} {down : Bool} {L : DL} {D : Dk} (hs : SB w s L.d mb turn iv down) (hD : DiskAt w L D) (hl : D.loose.length ≤ 65536) (hup : D.down = false) (key : ByteArray) {x : Ent}
    (hf : Calls Tryz.prog 47 #[.pointer (some ⟨s, 0, none⟩), .string key] w (FindPost w (x, 0))) (hsec : ∀ a ∈ x.secs, a < D.firm.length) (hsz : x.size ≤ (secBytes D.sector x.secs).length) (hfew : x.secs.length ≤ 65536) :
    Calls Tryz.prog 22 #[.pointer (some ⟨s, 0, none⟩), .string key] w fun e w' => e = .returned (.tuple #[.string (S (blobOf D.sector x)), .int .i64 0]) ∧ Same w w' := by
  have h64 := hD.sector_size
  have hbyl := fun l => secBytes_len D.sector l h64
  have hrd : ∀ W (a : Nat), Same w W → a < D.firm.length → Calls Tryz.prog 48 #[.pointer (some ⟨s, 0, none⟩), .int .i64 a] W fun e w' => e = .returned (.tuple #[.string (D.sector a), .int .i64 0]) ∧ Same W w' := by
    intro W a hW ha
    have h := sread_up (Blk.same hs hW) (hD.same hW) hl hup (a : Int)
    have e : D.read (a : Int) = (D.sector a, 0) := by
      have hh : hasB D.firm.length (a : Int) = true := by simp [hasB]; omega
      unfold Dk.read
      rw [hup, hh]
      simp
    rw [e] at h
    exact h
  have hbo : blobOf D.sector x = (secBytes D.sector x.secs).take x.size := rfl
  generalize blobOf D.sector x = out at *
  generalize D.sector = rd at *
  clear hs hD hup hl
  go_enter Tryz.func22, Tryz.ntmps22
  go_wp2_with (first
    | (go_at_call 47; refine hf.mono ?_; rintro e w1 ⟨_, rfl, ⟨A, cap, rfl, hsv⟩, k1⟩))
  have hq := (Blk.new w1 99 [.int .i64 x.size, .slice A x.secs.length cap]).alloc (.cells #[.pointer none, .slice none 0 0] 104)
  have hbd : Bld ((w1.alloc (.cells #[.int .i64 x.size, .slice A x.secs.length cap] 99)).alloc (.cells #[.pointer none, .slice none 0 0] 104)) (w1.heap.size + 1) [] := by
    have := Bld.new (w1.alloc (.cells #[.int .i64 x.size, .slice A x.secs.length cap] 99))
    rwa [World.size_alloc] at this
  have k2 : Same w1 ((w1.alloc (.cells #[.int .i64 x.size, .slice A x.secs.length cap] 99)).alloc (.cells #[.pointer none, .slice none 0 0] 104)) := ((Chg.refl _ w1).alloc _).alloc _
  have hw2 := k1.trans k2
  change Blk ((w1.alloc (.cells #[.int .i64 x.size, .slice A x.secs.length cap] 99)).alloc (.cells #[.pointer none, .slice none 0 0] 104)) _ _ _ at hq
  have hs1 := k1.size
  generalize (w1.alloc (.cells #[.int .i64 x.size, .slice A x.secs.length cap] 99)).alloc (.cells #[.pointer none, .slice none 0 0] 104) = W at *
  go_loopw [25] (fun i wr => ∃ m : Nat, m ≤ x.secs.length ∧ i = .int .i64 m ∧ Bld wr (w1.heap.size + 1) (secBytes rd (x.secs.take m)) ∧ Blk wr w1.heap.size 99 [.int .i64 x.size, .slice A x.secs.length cap] ∧ Same w1 wr ∧ Same w wr) (fun i _ => x.secs.length - (intOf i).toNat)
  case atStart => exact ⟨0, Nat.zero_le _, rfl, hbd, hq, k2, hw2⟩
  case round =>
    obtain ⟨m, hm, rfl, hbr, hqr, hk1, hkw⟩ := hrel
    by_cases hlt : m < x.secs.length
    · have ha := hsec _ (List.getElem_mem hlt)
      have hsn := secBytes_snoc rd (x.secs.take m) x.secs[m]
      rw [List.take_append_getElem hlt] at hsn
      have hlm := hbyl (x.secs.take m)
      rw [List.length_take_of_le hm] at hlm
      have h6 := h64 x.secs[m]
      rcases hsv with h0 | ⟨b, off, c, rfl, hbb, hr⟩
      · rw [h0] at hlt; simp at hlt
      have hr' := hr.chg hk1 (fun h => h)
      have c0 := hr' m (.int .i64 (x.secs[m] : Nat)) (by simp [natInts, hlt])
      have hrd1 := hrd wr x.secs[m] hkw ha
      have Hsn := Lib.hid hsn
      clear hsn hr hr' hbb
      generalize x.secs[m] = a at *
      have hrs : rd a = S (rd a).data.toList := rfl
      have hrl : (rd a).data.toList.length ≤ 64 := h6
      have Hl := Lib.hid hrl
      rw [hrs] at hrd1
      clear hrs hrl h6 hrd
      generalize (rd a).data.toList = sl at *
      go_wp2_with (first
        | (go_at_call 48; refine hrd1.mono ?_; rintro e w3 ⟨rfl, k3⟩; have hb3 := hbr.same k3)
        | (go_at_call 49; refine (bldWrite_spec hb3 sl (by have := Hl.out; omega)).mono ?_; rintro e w4 ⟨rfl, hb4, k4⟩))
      go_roundw
      · refine ⟨m + 1, by omega, rfl, by rw [Hsn.out]; exact hb4, (hqr.same k3).chg k4 (BS.not_low (by omega)), (hk1.trans k3).trans' k4 (fun _ _ h => h) (fun j hj e => absurd e.1 (by omega)), (hkw.trans k3).trans' k4 (fun _ _ h => h) (fun j hj e => absurd e.1 (by omega))⟩
      · simp only [intOf]; omega
    · rw [List.take_of_length_le (by omega)] at hbr
      have hly := hbyl x.secs
      have hex : (S (secBytes rd x.secs)).extract 0 x.size = S out := by rw [S_extract, List.drop_zero, hbo]
      have hszz := S_size (secBytes rd x.secs)
      have hst2 : ∀ n, Calls Tryz.prog 50 #[.pointer (some ⟨w1.heap.size + 1, 0, none⟩)] (wr.drewN n) fun e w' => e = .returned (.string (S (secBytes rd x.secs))) ∧ Chg (BS wr (w1.heap.size + 1)) wr w' := fun n => (bldString_spec (w := wr.drewN n) hbr).mono (fun e w' h => ⟨h.1, ⟨h.2.2.os, h.2.2.tape, h.2.2.output, h.2.2.size, h.2.2.block⟩⟩)
      have d0 := hqr.cell 0
      simp only [List.getElem?_cons_zero] at d0
      clear hsv hbo hbyl hrd hbd hq
      generalize secBytes rd x.secs = full at *
      generalize S full = fs at *
      go_wp2
      go_region_held3 (fun w' => w'.cell? ⟨w1.heap.size, 0, none⟩ = some (.int .i64 x.size)) (first | exact d0 | exact cell_chg (by assumption) d0 (BS.not_low (by simp)))
        (first | (go_at_call 50; refine (hst2 1).mono ?_; rintro e w5 ⟨rfl, k5⟩))
      go_wp2
      go_ret2
      exact ⟨rfl, hkw.trans' k5 (fun _ _ h => h) (fun j hj e => absurd e.1 (by omega))⟩
end Go.Proofs.Obj

/- S9 -/
namespace Go.Proofs.Obj
open Go Go.RowKit

/-- slices.Clone of numbers. -/
theorem cloneInt_spec {w : World} {v : Value} {l : List Nat} (h : Secs w v l) (hl : l.length ≤ 1000000) :
    Calls Tryz.prog 52 #[v] w fun e w' => ∃ v', e = .returned v' ∧ Secs w' v' l ∧ Same w w' := by
  obtain ⟨A, cap, rfl, h⟩ := h
  have hz : ∀ l : List Nat, (l.map fun p => ((p : Nat) : Int)).map (Value.int .i64) = natInts l := fun l => by simp [natInts]
  rcases h with rfl | ⟨b, off, c, rfl, hb, hr⟩
  · cases A with
    | none =>
      refine (Tryz.slices_Clone_int_nil 0 cap w).mono ?_
      rintro e w' ⟨rfl, rfl⟩
      exact ⟨_, rfl, ⟨none, 0, rfl, .inl rfl⟩, .refl _ _⟩
    | some a =>
      refine (Tryz.slices_Clone_int_zero a cap w).mono ?_
      rintro e w' ⟨v', rfl, h1, h2, h3⟩
      exact ⟨v', rfl, Secs.of_own (l := []) h1, Chg.of_below h3⟩
  · refine (Tryz.slices_Clone_int b off l.length cap (l.map fun p => ((p : Nat) : Int)) w (by simp) (by omega) (fun j hj => by
      have hj' : j < l.length := by simpa using hj
      rw [hr j (.int .i64 (l[j] : Nat)) (by simp [natInts, hj'])]
      simp [List.getD, hj'])).mono ?_
    rintro e w' ⟨v', rfl, h1, h2, h3⟩
    rw [List.take_of_length_le (by simp), hz] at h1
    exact ⟨v', rfl, Secs.of_own h1, Chg.of_below h3⟩

theorem where_spec {w : World} {p : Option Addr} (key : ByteArray) {x : Ent × Int} (hf : Calls Tryz.prog 47 #[.pointer p, .string key] w (FindPost w x)) (hl : x.1.secs.length ≤ 1000000) :
    Calls Tryz.prog 24 #[.pointer p, .string key] w fun e w' => ∃ v', e = .returned (.tuple #[v', .int .i64 x.2]) ∧ Secs w' v' x.1.secs ∧ Same w w' := by
  have hcl := fun W v (h : Secs W v x.1.secs) => cloneInt_spec h hl
  go_enter Tryz.func24, Tryz.ntmps24
  go_wp2_with (first
    | (go_at_call 47; refine hf.mono ?_; rintro e w1 ⟨_, rfl, ⟨A, cap, rfl, hsv⟩, k1⟩; have hsA : ∀ o, Secs (w1.alloc o) (.slice A x.1.secs.length cap) x.1.secs := fun o => Secs.chg ⟨A, cap, rfl, hsv⟩ ((Chg.refl (fun _ => False) w1).alloc o) (fun _ _ _ h => h))
    | (go_at_call 52; refine (hcl _ _ (hsA _)).mono ?_; rintro e w2 ⟨v', rfl, h2, k2⟩))
  go_ret2
  exact ⟨v', rfl, h2, (k1.alloc _).trans k2⟩
end Go.Proofs.Obj

/- S10 -/
namespace Go.Proofs.Obj
open Go Go.RowKit Go.Maps Go.Sort Go.Shelf Go.Proofs

theorem MapAt.rising {kt : TypeId} (hk : Tryz.prog.underlying kt = some .string) {w : World} {b : Nat} {l : KV} (h : MapAt kt w b l) : Rising (l.map (·.1)) := by
  obtain ⟨es, clock, _, F, _, hD⟩ := h
  have h1 := Maps.sorted_sorted (Maps.Keyed.one (string_keyed hk)) _ (Maps.fit_keys F) (Maps.fit_apart (string_keyed hk) F)
  have h2 : toL l = (es.toList.map (Go.WideElems.rg Tryz.prog kt HR)).foldr DataW.insert [] := by simpa using hD
  rw [← h2] at h1
  unfold Rising
  unfold toL at h1
  rw [List.pairwise_map] at h1 ⊢
  exact h1.imp (fun h => h)

theorem before_le : ∀ {a b : List UInt8}, bytesBefore a b = true → a ≤ b
  | [], _, _ => List.nil_le _
  | _ :: _, [], h => by simp [bytesBefore] at h
  | a :: r, b :: s, h => by
    simp only [bytesBefore, Bool.or_eq_true, Bool.and_eq_true, decide_eq_true_eq, beq_iff_eq] at h
    rw [List.cons_le_cons_iff]
    rcases h with h | ⟨rfl, h⟩
    · exact .inl h
    · exact .inr ⟨rfl, before_le h⟩

theorem mergeSort_rising {l ss : List (List UInt8)} (hr : Rising l) (hp : ss.Perm l) : ss.mergeSort (fun x y => decide (x ≤ y)) = l := by
  have h1 : ss.mergeSort leB = l.mergeSort leB := mergeSort_of_perm hp
  have h2 : l.mergeSort leB = l := List.mergeSort_of_pairwise (hr.imp (fun h => by simpa [leB] using before_le h))
  exact h1.trans h2

theorem strKeys_toL (l : KV) : strKeys (DataW.map (toL l)) = l.map (·.1) := by
  simp [strKeys, toL, strOf, Function.comp_def]

/-- Keys as strings. -/
def keyCells (l : List (List UInt8)) : List Value := l.map fun k => .string (S k)
theorem encStr_S (l : List (List UInt8)) : l.map encStr = keyCells l := by
  unfold keyCells
  apply List.map_congr_left
  intro k _
  rfl

theorem Tryz.sortsA (m : Nat) : AnyZ.SortsIn Tryz.prog Tryz.sortedA_ren Fence.wide m :=
  ⟨fun blk off cap ss W hH hblk hsz => callsIn_wide.2 (AnyM.slices_Sort_string Tryz.sortA blk off cap ss W hH hblk hsz),
   fun p cap W => callsIn_wide.2 (AnyM.slices_Sort_string_none Tryz.sortA p cap W)⟩
theorem Tryz.sortsB (m : Nat) : AnyZ.SortsIn Tryz.prog Tryz.sortedB_ren Fence.wide m :=
  ⟨fun blk off cap ss W hH hblk hsz => callsIn_wide.2 (AnyM.slices_Sort_string Tryz.sortB blk off cap ss W hH hblk hsz),
   fun p cap W => callsIn_wide.2 (AnyM.slices_Sort_string_none Tryz.sortB p cap W)⟩

theorem keysA_call (mb : Nat) (w : World) : Calls Tryz.prog 78 #[.map (some mb)] w fun e w' => e = .returned (.func (.func 111) #[] #[.pointer (some ⟨w.heap.size, 0, none⟩)]) ∧ w.alloc (.cells #[.map (some mb)] 71) = w' := by
  refine ((callsIn_wide (n := 5)).1 (AnyZ.keys_in Tryz.keysA Fence.wide 5 trivial rfl (some mb) w)).mono ?_
  rintro e w' ⟨rfl, rfl⟩
  exact ⟨rfl, rfl⟩
theorem keysB_call (mb : Nat) (w : World) : Calls Tryz.prog 107 #[.map (some mb)] w fun e w' => e = .returned (.func (.func 129) #[] #[.pointer (some ⟨w.heap.size, 0, none⟩)]) ∧ w.alloc (.cells #[.map (some mb)] 95) = w' := by
  refine ((callsIn_wide (n := 5)).1 (AnyZ.keys_in Tryz.keysB Fence.wide 5 trivial rfl (some mb) w)).mono ?_
  rintro e w' ⟨rfl, rfl⟩
  exact ⟨rfl, rfl⟩

theorem sortedA_call {w : World} {mb q : Nat} {l : KV} (hm : MapAt 9 w mb l) (hq : Blk w q 71 [.map (some mb)]) (hl : l.length ≤ 100000) :
    Calls Tryz.prog 77 #[.func (.func 111) #[] #[.pointer (some ⟨q, 0, none⟩)]] w fun e w' => ∃ v, e = .returned v ∧ w'.ownsRow w.heap.size 9 1 v l.length (keyCells (l.map (·.1))) ∧ Same w w' := by
  have hsz : Maps.size (DataW.map (toL l)) = l.length := by simp [Maps.size_eq, toL]
  have hseq : SeqGives Fence.wide 2 Tryz.prog 111 #[.pointer (some ⟨q, 0, none⟩)] encStr (fun ss => ss.Perm (strKeys (DataW.map (toL l)))) (Maps.size (DataW.map (toL l))) w :=
    AnyZ.keys_gives (ρ := Tryz.keysA_ren) { Tryz.keysA with } Fence.wide _ trivial rfl (by omega) q mb l.length _ _ hq.lt (hq.cell 0) hm
  have cS := AnyZ.sorted_in Tryz.sortedA Fence.wide 5 trivial trivial trivial trivial rfl (by omega) (Tryz.sortsA _) (enters_of Tryz.func110 (by kernel_rfl) rfl) 111 #[.pointer (some ⟨q, 0, none⟩)] trivial (enters_of Tryz.func111 (by kernel_rfl) rfl) _ _ (by rw [hsz]; simp only [maxLen]; omega) (by rw [hsz]; omega) w hseq
  refine ((callsIn_wide (n := 5)).1 cS).mono ?_
  rintro e w' ⟨v, ss, rfl, hS, hrow, _, hb⟩
  rw [strKeys_toL] at hS
  have hl2 : ss.length = l.length := by have := hS.length_eq; simpa using this
  rw [mergeSort_rising (hm.rising Tryz.underlying9) hS, encStr_S, hl2] at hrow
  exact ⟨v, rfl, hrow, Chg.of_below hb⟩
theorem sortedB_call {w : World} {mb q : Nat} {l : KV} (hm : MapAt 149 w mb l) (hq : Blk w q 95 [.map (some mb)]) (hl : l.length ≤ 100000) :
    Calls Tryz.prog 106 #[.func (.func 129) #[] #[.pointer (some ⟨q, 0, none⟩)]] w fun e w' => ∃ v, e = .returned v ∧ w'.ownsRow w.heap.size 149 1 v l.length (keyCells (l.map (·.1))) ∧ Same w w' := by
  have hsz : Maps.size (DataW.map (toL l)) = l.length := by simp [Maps.size_eq, toL]
  have hseq : SeqGives Fence.wide 2 Tryz.prog 129 #[.pointer (some ⟨q, 0, none⟩)] encStr (fun ss => ss.Perm (strKeys (DataW.map (toL l)))) (Maps.size (DataW.map (toL l))) w :=
    AnyZ.keys_gives (ρ := Tryz.keysB_ren) { Tryz.keysB with } Fence.wide _ trivial rfl (by omega) q mb l.length _ _ hq.lt (hq.cell 0) hm
  have cS := AnyZ.sorted_in Tryz.sortedB Fence.wide 5 trivial trivial trivial trivial rfl (by omega) (Tryz.sortsB _) (enters_of Tryz.func128 (by kernel_rfl) rfl) 129 #[.pointer (some ⟨q, 0, none⟩)] trivial (enters_of Tryz.func129 (by kernel_rfl) rfl) _ _ (by rw [hsz]; simp only [maxLen]; omega) (by rw [hsz]; omega) w hseq
  refine ((callsIn_wide (n := 5)).1 cS).mono ?_
  rintro e w' ⟨v, ss, rfl, hS, hrow, _, hb⟩
  rw [strKeys_toL] at hS
  have hl2 : ss.length = l.length := by have := hS.length_eq; simpa using this
  rw [mergeSort_rising (hm.rising Tryz.underlying149) hS, encStr_S, hl2] at hrow
  exact ⟨v, rfl, hrow, Chg.of_below hb⟩
end Go.Proofs.Obj

/- S11 -/
namespace Go.Proofs.Obj
open Go Go.RowKit Go.Shelf
attribute [local go_sem] Oper.semAt_some

def encKV (x : List UInt8 × Value) : Array Value := #[.string (S x.1), x.2]

theorem own_form {w : World} {base : Nat} {e : TypeId} {size n : Nat} {v : Value} {xs : List Value} (h : w.ownsRow base e size v n xs) : ∃ A cap, v = .slice A n cap := by
  rcases h.2 with ⟨h, h0⟩ | ⟨g, cap, cur, h, _⟩
  · exact ⟨none, 0, by rw [h, h0]⟩
  · exact ⟨_, cap, h⟩
theorem kvGet_at {kv : KV} (hr : Rising (kv.map (·.1))) (m : Nat) (h : m < kv.length) : kvGet kv[m].1 kv = some kv[m].2 := by
  unfold kvGet
  have : kv.find? (fun p => p.1 == kv[m].1) = some kv[m] := by
    rw [List.find?_eq_some_iff_getElem]
    refine ⟨by simp, m, h, rfl, fun j hj => ?_⟩
    have h1 := (List.pairwise_iff_getElem.1 hr) j m (by simpa using Nat.lt_trans hj h) (by simpa using h) hj
    simp only [List.getElem_map] at h1
    have : kv[j].1 ≠ kv[m].1 := fun e => by rw [e, bytesBefore_irrefl] at h1; cases h1
    simpa using this
  rw [this]; rfl
theorem keyCells_at (kv : KV) (m : Nat) (h : m < kv.length) : (keyCells (kv.map (·.1)))[m]? = some (.string (S kv[m].1)) := by
  simp [keyCells, h]

set_option maxRecDepth 100000 in
set_option maxHeartbeats 1000000 in
theorem risingA_iter {w : World} {B mb : Nat} {kv : KV} (hB : Blk w B 71 [.map (some mb)]) (hm : MapAt 9 w mb kv) (hl : kv.length ≤ 100000) (hkl : ∀ x ∈ kv, x.1.length ≤ 65536) :
    Iter Tryz.prog 76 #[.pointer (some ⟨B, 0, none⟩)] encKV (fun k => k = B ∨ k = mb) kv w := by
  intro lo J Jx S' W hsame hS hJ hJx hY h0
  have hBW := hB.same hsame
  have hmW := hm.same hsame
  have hris := hmW.rising Tryz.underlying9
  have cB := hBW.cell 0
  simp only [List.getElem?_cons_zero] at cB
  have hSlt : ∀ k, S' k → k < W.heap.size := fun k h => (hS k h).1
  refine (callsIn_wide (n := 0)).1 ?_
  refine callsIn_of_wp Tryz.func76 rfl trivial ?_ rfl
  simp only [Tryz.ntmps76, List.size_toArray, List.length_cons, List.length_nil, Nat.reduceAdd, Nat.reduceSub, Array.replicate_succ, Array.replicate_zero, List.push_toArray, List.append_toArray, List.nil_append, List.cons_append, Array.size_append]
  gi_wp2_with (first
    | (refine ⟨trivial, rfl, ?_⟩; gi_at_call 78; refine (callsIn_wide.2 (keysA_call mb _)).mono ?_; rintro e w' ⟨rfl, rfl⟩)
    | (refine ⟨trivial, rfl, ?_⟩; gi_at_call 77; refine (callsIn_wide.2 (sortedA_call (hmW.same ((Chg.refl _ _).alloc _)) (Blk.new W 71 [.map (some mb)]) hl)).mono ?_; rintro e W2 ⟨v, rfl, hrow, k2⟩; obtain ⟨A, cap, rfl⟩ := own_form hrow))
  have kW2 : Same W W2 := ((Chg.refl _ W).alloc _).trans k2
  have hs2 := kW2.size
  have hsA : (W.alloc (.cells #[.map (some mb)] 71)).heap.size = W.heap.size + 1 := by simp
  gi_loopw [9] (fun i wr => ∃ (m : Nat) (M : Nat → Prop), m ≤ kv.length ∧ i = .int .i64 m ∧ Grew S' W2 M wr ∧ Chg S' W2 wr ∧ J (kv.take m) M wr) (fun i _ => kv.length - (intOf i).toNat)
  case atStart => exact ⟨0, S', Nat.zero_le _, rfl, .refl _ _, .refl _ _, hJ _ _ _ _ h0 (Chg.of_same kW2)⟩
  case round =>
    obtain ⟨m, M, hml, rfl, hgr, hch, hj⟩ := hrel
    have hgrW : Grew S' W M wr := fun k h => (hgr k h).imp id (fun h => ⟨by omega, h.2⟩)
    have hchW : Chg S' W wr := Chg.after_same kW2 hch
    by_cases hlt : m < kv.length
    · have hBr := hBW.chg hchW (fun h => (hS _ h).2 (.inl rfl))
      have hmr := hmW.chg hchW (fun h => (hS _ h).2 (.inr rfl))
      have hrowr := own_chg hrow hch (fun b hb h => by have := own_base hrow hb; have := hSlt _ h; omega)
      obtain ⟨g, rfl⟩ : ∃ g, A = some ⟨g, 0, none⟩ := by
        rcases hrow.2 with ⟨_, h0⟩ | ⟨g, cap, cur, h, _⟩
        · omega
        · exact ⟨g, by simpa using (Value.slice.inj h).1⟩
      have cBr := hBr.cell 0
      simp only [List.getElem?_cons_zero] at cBr
      have r0 := own_cells hrowr m _ (keyCells_at kv m hlt)
      have hkl1 := hkl _ (List.getElem_mem hlt)
      have hlk := MapAt.look (t := 71) (e := 99) hmr Tryz.underlying9 Tryz.underlying71 (Tryz.zeroValue99 _) (S kv[m].1) (by rw [S_size]; simp only [maxLen]; omega) false
      rw [show (S kv[m].1).data.toList = kv[m].1 from rfl, kvGet_at hris m hlt] at hlk
      simp only [lookV, Bool.false_eq_true, if_false, Option.getD_some] at hlk
      have hx : kv = kv.take m ++ kv[m] :: kv.drop (m + 1) := by
        conv => lhs; rw [← List.take_append_drop m kv, List.drop_eq_getElem_cons hlt]
      have hnx : kv.take (m + 1) = kv.take m ++ [kv[m]] := (List.take_append_getElem hlt).symm
      obtain ⟨fn, tmps, assign, body, hy, hR⟩ := hY _ _ _ M wr hx hchW.size (hgrW.lt hchW.size hSlt) hj
      dsimp only [encKV] at hy
      have Hx := Lib.hid hx
      have Hn := Lib.hid hnx
      clear hx hnx cB
      generalize S kv[m].1 = ks at *
      generalize kv[m].2 = kval at *
      gi_wp2
      refine ⟨rfl, hR.mono ?_⟩
      rintro e W' ⟨M', hgr', hch', (⟨rfl, hj'⟩ | ⟨rfl, hjx⟩)⟩
      · gi_wp2
        go_roundw
        case rel => exact ⟨m + 1, M', by omega, rfl, hgr.trans hgr' hch.size hch'.size, hgr.chg hch hch', by rw [Hn.out]; exact hj'⟩
        case measure => simp only [intOf]; omega
      · gi_wp2
        refine bodyPost_ret (results_none rfl _ _ _) rfl ?_
        refine ⟨rfl, M', hgrW.trans hgr' hchW.size hch'.size, hgrW.chg hchW hch', .inr ⟨_, ?_, hjx⟩⟩
        rw [← Hn.out]
        exact List.take_prefix _ _
    · gi_wp2
      go_end0
      refine ⟨rfl, M, hgrW, hchW, .inl ?_⟩
      rwa [List.take_of_length_le (by omega)] at hj
end Go.Proofs.Obj

/- S12 -/
namespace Go.Proofs.Obj
open Go Go.RowKit Go.Shelf
attribute [local go_sem] Oper.semAt_some

set_option maxRecDepth 100000 in
set_option maxHeartbeats 1000000 in
theorem risingB_iter {w : World} {B mb : Nat} {kv : KV} (hB : Blk w B 95 [.map (some mb)]) (hm : MapAt 149 w mb kv) (hl : kv.length ≤ 100000) (hkl : ∀ x ∈ kv, x.1.length ≤ 65536) :
    Iter Tryz.prog 105 #[.pointer (some ⟨B, 0, none⟩)] encKV (fun k => k = B ∨ k = mb) kv w := by
  intro lo J Jx S' W hsame hS hJ hJx hY h0
  have hBW := hB.same hsame
  have hmW := hm.same hsame
  have hris := hmW.rising Tryz.underlying149
  have cB := hBW.cell 0
  simp only [List.getElem?_cons_zero] at cB
  have hSlt : ∀ k, S' k → k < W.heap.size := fun k h => (hS k h).1
  refine (callsIn_wide (n := 0)).1 ?_
  refine callsIn_of_wp Tryz.func105 rfl trivial ?_ rfl
  simp only [Tryz.ntmps105, List.size_toArray, List.length_cons, List.length_nil, Nat.reduceAdd, Nat.reduceSub, Array.replicate_succ, Array.replicate_zero, List.push_toArray, List.append_toArray, List.nil_append, List.cons_append, Array.size_append]
  gi_wp2_with (first
    | (refine ⟨trivial, rfl, ?_⟩; gi_at_call 107; refine (callsIn_wide.2 (keysB_call mb _)).mono ?_; rintro e w' ⟨rfl, rfl⟩)
    | (refine ⟨trivial, rfl, ?_⟩; gi_at_call 106; refine (callsIn_wide.2 (sortedB_call (hmW.same ((Chg.refl _ _).alloc _)) (Blk.new W 95 [.map (some mb)]) hl)).mono ?_; rintro e W2 ⟨v, rfl, hrow, k2⟩; obtain ⟨A, cap, rfl⟩ := own_form hrow))
  have kW2 : Same W W2 := ((Chg.refl _ W).alloc _).trans k2
  have hs2 := kW2.size
  have hsA : (W.alloc (.cells #[.map (some mb)] 95)).heap.size = W.heap.size + 1 := by simp
  gi_loopw [9] (fun i wr => ∃ (m : Nat) (M : Nat → Prop), m ≤ kv.length ∧ i = .int .i64 m ∧ Grew S' W2 M wr ∧ Chg S' W2 wr ∧ J (kv.take m) M wr) (fun i _ => kv.length - (intOf i).toNat)
  case atStart => exact ⟨0, S', Nat.zero_le _, rfl, .refl _ _, .refl _ _, hJ _ _ _ _ h0 (Chg.of_same kW2)⟩
  case round =>
    obtain ⟨m, M, hml, rfl, hgr, hch, hj⟩ := hrel
    have hgrW : Grew S' W M wr := fun k h => (hgr k h).imp id (fun h => ⟨by omega, h.2⟩)
    have hchW : Chg S' W wr := Chg.after_same kW2 hch
    by_cases hlt : m < kv.length
    · have hBr := hBW.chg hchW (fun h => (hS _ h).2 (.inl rfl))
      have hmr := hmW.chg hchW (fun h => (hS _ h).2 (.inr rfl))
      have hrowr := own_chg hrow hch (fun b hb h => by have := own_base hrow hb; have := hSlt _ h; omega)
      obtain ⟨g, rfl⟩ : ∃ g, A = some ⟨g, 0, none⟩ := by
        rcases hrow.2 with ⟨_, h0⟩ | ⟨g, cap, cur, h, _⟩
        · omega
        · exact ⟨g, by simpa using (Value.slice.inj h).1⟩
      have cBr := hBr.cell 0
      simp only [List.getElem?_cons_zero] at cBr
      have r0 := own_cells hrowr m _ (keyCells_at kv m hlt)
      have hkl1 := hkl _ (List.getElem_mem hlt)
      have hlk := MapAt.look (t := 95) (e := 9) hmr Tryz.underlying149 Tryz.underlying95 (Tryz.zeroValue9 _) (S kv[m].1) (by rw [S_size]; simp only [maxLen]; omega) false
      rw [show (S kv[m].1).data.toList = kv[m].1 from rfl, kvGet_at hris m hlt] at hlk
      simp only [lookV, Bool.false_eq_true, if_false, Option.getD_some] at hlk
      have hx : kv = kv.take m ++ kv[m] :: kv.drop (m + 1) := by
        conv => lhs; rw [← List.take_append_drop m kv, List.drop_eq_getElem_cons hlt]
      have hnx : kv.take (m + 1) = kv.take m ++ [kv[m]] := (List.take_append_getElem hlt).symm
      obtain ⟨fn, tmps, assign, body, hy, hR⟩ := hY _ _ _ M wr hx hchW.size (hgrW.lt hchW.size hSlt) hj
      dsimp only [encKV] at hy
      have Hx := Lib.hid hx
      have Hn := Lib.hid hnx
      clear hx hnx cB
      generalize S kv[m].1 = ks at *
      generalize kv[m].2 = kval at *
      gi_wp2
      refine ⟨rfl, hR.mono ?_⟩
      rintro e W' ⟨M', hgr', hch', (⟨rfl, hj'⟩ | ⟨rfl, hjx⟩)⟩
      · gi_wp2
        go_roundw
        case rel => exact ⟨m + 1, M', by omega, rfl, hgr.trans hgr' hch.size hch'.size, hgr.chg hch hch', by rw [Hn.out]; exact hj'⟩
        case measure => simp only [intOf]; omega
      · gi_wp2
        refine bodyPost_ret (results_none rfl _ _ _) rfl ?_
        refine ⟨rfl, M', hgrW.trans hgr' hchW.size hch'.size, hgrW.chg hchW hch', .inr ⟨_, ?_, hjx⟩⟩
        rw [← Hn.out]
        exact List.take_prefix _ _
    · gi_wp2
      go_end0
      refine ⟨rfl, M, hgrW, hchW, .inl ?_⟩
      rwa [List.take_of_length_le (by omega)] at hj
end Go.Proofs.Obj

/- S13 -/
namespace Go.Proofs.Obj
open Go Go.RowKit Go.Shelf
attribute [local go_sem] Oper.semAt_some

theorem risingA_call (mb : Option Nat) (w : World) : Calls Tryz.prog 51 #[.map mb] w fun e w' => e = .returned (.func (.func 76) #[] #[.pointer (some ⟨w.heap.size, 0, none⟩)]) ∧ w.alloc (.cells #[.map mb] 71) = w' := by
  go_enter Tryz.func51, Tryz.ntmps51
  go_wp2
  go_ret
  exact ⟨rfl, rfl⟩
theorem risingB_call (mb : Option Nat) (w : World) : Calls Tryz.prog 72 #[.map mb] w fun e w' => e = .returned (.func (.func 105) #[] #[.pointer (some ⟨w.heap.size, 0, none⟩)]) ∧ w.alloc (.cells #[.map mb] 95) = w' := by
  go_enter Tryz.func72, Tryz.ntmps72
  go_wp2
  go_ret
  exact ⟨rfl, rfl⟩

theorem Tryz.info9' : (Tryz.prog.info? 9).map (fun i => (i.zero, i.size, i.bytes)) = some (some (.string ⟨#[]⟩), 1, 16) := Tryz.info9

/-- (*Store).Keys of none, and of one that is down: nothing. -/
theorem keys_nil (w : World) : Calls Tryz.prog 23 #[.pointer none] w fun e w' => e = .returned (.slice none 0 0) ∧ Same w w' := by
  refine (callsIn_wide (n := 0)).1 ?_
  refine callsIn_of_wp_marks Tryz.func23 rfl trivial ?_ rfl
  simp only [Tryz.ntmps23, List.size_toArray, List.length_cons, List.length_nil, Nat.reduceAdd, Nat.reduceSub, Array.replicate_succ, Array.replicate_zero, List.push_toArray, List.append_toArray, List.nil_append, List.cons_append, Array.size_append]
  gi_wp2_with (refine ⟨trivial, rfl, ?_⟩; gi_at_call 43; refine (callsIn_wide.2 (gate_nil _)).mono ?_; rintro e w' ⟨rfl, rfl⟩)
  exact ⟨.slice none 0 0, by simp [results, Tryz.f23, go_sem], rfl, .refl _ _⟩
theorem keys_down {w : World} {s mb d : Nat} {turn : Int} {iv : Value} (hs : SB w s d mb turn iv true) : Calls Tryz.prog 23 #[.pointer (some ⟨s, 0, none⟩)] w fun e w' => e = .returned (.slice none 0 0) ∧ Same w w' := by
  have hg := gate_spec hs
  simp only [if_true] at hg
  refine (callsIn_wide (n := 0)).1 ?_
  refine callsIn_of_wp_marks Tryz.func23 rfl trivial ?_ rfl
  simp only [Tryz.ntmps23, List.size_toArray, List.length_cons, List.length_nil, Nat.reduceAdd, Nat.reduceSub, Array.replicate_succ, Array.replicate_zero, List.push_toArray, List.append_toArray, List.nil_append, List.cons_append, Array.size_append]
  gi_wp2_with (refine ⟨trivial, rfl, ?_⟩; gi_at_call 43; refine (callsIn_wide.2 hg).mono ?_; rintro e w' ⟨rfl, rfl⟩)
  exact ⟨.slice none 0 0, by simp [results, Tryz.f23, go_sem], rfl, .refl _ _⟩

set_option maxRecDepth 100000 in
set_option maxHeartbeats 1000000 in
theorem storeKeys_up {w : World} {s mb d : Nat} {turn : Int} {iv : Value} {kv : KV} (hs : SB w s d mb turn iv false) (hm : MapAt 9 w mb kv) (hl : kv.length ≤ 100000) (hkl : ∀ x ∈ kv, x.1.length ≤ 65536) :
    Calls Tryz.prog 23 #[.pointer (some ⟨s, 0, none⟩)] w fun e w' => ∃ v, e = .returned v ∧ w'.ownsRow w.heap.size 9 1 v kv.length (keyCells (kv.map (·.1))) ∧ Same w w' := by
  have hg := gate_spec hs
  simp only [Bool.false_eq_true, if_false] at hg
  have s1 := fun o => hs.cellA 1 o
  simp only [List.getElem?_cons_zero, List.getElem?_cons_succ] at s1
  refine (callsIn_wide (n := 0)).1 ?_
  refine callsIn_of_wp_marks Tryz.func23 rfl trivial ?_ rfl
  simp only [Tryz.ntmps23, List.size_toArray, List.length_cons, List.length_nil, Nat.reduceAdd, Nat.reduceSub, Array.replicate_succ, Array.replicate_zero, List.push_toArray, List.append_toArray, List.nil_append, List.cons_append, Array.size_append]
  gi_wp2_with (first
    | (refine ⟨trivial, rfl, ?_⟩; gi_at_call 43; refine (callsIn_wide.2 hg).mono ?_; rintro e w' ⟨rfl, rfl⟩)
    | (refine ⟨trivial, rfl, ?_⟩; gi_at_call 51; refine (callsIn_wide.2 (risingA_call (some mb) _)).mono ?_; rintro e w' ⟨rfl, rfl⟩))
  have hW : Same w ((w.alloc (Obj.cells #[Value.slice none 0 0] 30)).alloc (.cells #[.map (some mb)] 71)) := ((Chg.refl _ w).alloc _).alloc _
  have hb2 : Blk ((w.alloc (Obj.cells #[Value.slice none 0 0] 30)).alloc (.cells #[.map (some mb)] 71)) w.heap.size 30 [.slice none 0 0] := (Blk.new w 30 [.slice none 0 0]).alloc _
  have hbq : Blk ((w.alloc (Obj.cells #[Value.slice none 0 0] 30)).alloc (.cells #[.map (some mb)] 71)) (w.heap.size + 1) 71 [.map (some mb)] := by
    have := Blk.new (w.alloc (Obj.cells #[Value.slice none 0 0] 30)) 71 [.map (some mb)]
    rwa [World.size_alloc] at this
  have hmW := hm.same hW
  have hsz : ((w.alloc (Obj.cells #[Value.slice none 0 0] 30)).alloc (.cells #[.map (some mb)] 71)).heap.size = w.heap.size + 2 := by simp
  have hmlt := hm.lt
  generalize (w.alloc (Obj.cells #[Value.slice none 0 0] 30)).alloc (.cells #[.map (some mb)] 71) = W at *
  refine range_rule (gf := 76) (lb := #[.pointer (some ⟨w.heap.size + 1, 0, none⟩)]) rfl (enters_of Tryz.func76 (by kernel_rfl) rfl) (risingA_iter hbq hmW hl hkl)
    (fun k h => by rcases h with rfl | rfl <;> omega) (fun _ => rfl) (fun k => k = w.heap.size)
    (fun k h => ⟨by omega, fun h' => by rcases h' with h' | h' <;> omega⟩)
    (fun pre M V => M w.heap.size ∧ ∃ v, Blk V w.heap.size 30 [v] ∧ V.ownsRow (w.heap.size + 1) 9 1 v pre.length (keyCells (pre.map (·.1))) ∧ ∀ k, v.ownBlock = some k → M k)
    (fun c pre M V => False)
    (fun pre M X Y h hc => by
      obtain ⟨h1, v, h2, h3, h4⟩ := h
      exact ⟨h1, v, h2.chg hc (fun h => h.2 h1), own_chg h3 hc (fun b hb h => h.2 (h4 b hb)), h4⟩)
    (fun c pre M X Y h hc => h)
    ⟨rfl, _, hb2, World.ownsRow_nil _ _ _ _, by simp [Value.ownBlock]⟩ ?round ?done ?stop
  case round =>
    rintro l pre x suf M V hx hlw hlV hMl hMV hgr hch ⟨hM0, v, hb, hrow, hM⟩ K hK
    dsimp only [encKV]
    gi_wp2
    refine hK _ _ (.refl _ _) ?_
    rintro V2 hc2 ⟨_, v2, hb2, hrow2, hM2⟩
    have e2 := hb2.cellA 0
    have f2 := hb2.frozen 0
    have c2 := hb2.cell 0
    simp only [List.getElem?_cons_zero] at e2 c2
    gi_wp2_with (gi_at_builtin; refine app_own_in rfl (.tmp 15) (.tmp 17) 30 9 _ 1 16 rfl Tryz.underlying30 Tryz.info9 rfl (by decide) (by decide) (w.heap.size + 1) v2 pre.length (keyCells (pre.map (·.1))) [.string (S x.1)] rfl rfl rfl ?c1 hrow2 ?c2 ?c3 ?c4)
    case c1 => intro u hu; simp at hu; subst hu; rfl
    case c2 => have := hch.size; have := hc2.size; omega
    case c3 =>
      have : pre.length < kv.length := by rw [hx]; simp
      omega
    case c4 =>
      intro g cap W3 hrow3 k3 hg3
      have e5 : keyCells (pre.map (·.1)) ++ [Value.string (S x.1)] = keyCells ((pre ++ [x]).map (·.1)) := by simp [keyCells]
      rw [e5] at hrow3
      have hne : ¬ v2.ownBlock = some w.heap.size := fun e => by have := own_base hrow2 e; omega
      have hb3 := hb2.chg k3 hne
      have c3 := hb3.cell 0
      have f3 := hb3.frozen 0
      simp only [List.getElem?_cons_zero] at c3
      have hb4 := hb3.setCell 0 (.slice (some ⟨g, 0, none⟩) (pre.length + 1) cap)
      have hs3 := hc2.size
      have hs4 := k3.size
      gi_wp2
      refine ⟨fun k => M k ∨ k = g, ?_, ?_, .inl hM0, _, hb4, ?_, ?_⟩
      · rintro k (h | rfl)
        · exact .inl h
        · rcases hg3 with h | h
          · exact .inl (hM2 _ h)
          · exact .inr ⟨h, by
              have := lt_of_at (own_type hrow3 rfl).choose_spec
              simpa using this⟩
      · exact (k3.mono (fun k _ h => hM2 k h)).setCell (p := ⟨w.heap.size, 0, none⟩) (fun _ => hM0) _
      · have : (pre ++ [x]).length = pre.length + 1 := by simp
        rw [this]
        exact own_chg hrow3 (Chg.set1 W3 w.heap.size 0 _) (fun b hb e => by have := own_base hrow3 hb; omega)
      · intro k hk
        exact .inr (by simpa [Value.ownBlock] using hk.symm)
  case done =>
    rintro DD M V hD1 hK1 hMD hgr hch ⟨hM0, v, hb, hrow, hM⟩
    have c2 := hb.cell 0
    simp only [List.getElem?_cons_zero] at c2
    gi_wp2
    refine leave_loop (v := v) (.inr rfl) hK1 (fun W' _ => results_tmp (fn := Tryz.f23) (t := 2) rfl _ _ _) (fun W' hc => ⟨v, rfl, own_chg (own_low hrow (by omega)) hc (fun b hb e => by subst e; exact hMD (hM _ hb)), ?_⟩)
    exact ((Chg.after_same hW hch).trans' hc (U := fun _ => False) (fun j hj h => by omega) (fun j hj e => by omega))
  case stop =>
    rintro DD c pre M V hD1 hK1 hMD hgr hch hpre hi
    exact hi.elim
end Go.Proofs.Obj

/- S14 -/
namespace Go.Proofs.Obj
open Go Go.RowKit

def heldOr (a : Option Value) (z : DataW Value) : DataW Value := match a with | some v => .held v | none => z
theorem get_of_atKey {a b : Option Value} (h : ∀ z : DataW Value, heldOr a z = heldOr b z) : a = b := by
  have h1 := h (.lit (.bool true))
  cases a <;> cases b
  · rfl
  · cases h1
  · cases h1
  · exact congrArg some (DataW.held.inj h1)
theorem toL_get' (k : List UInt8) (l : KV) (z : DataW Value) : (DataW.map (toL l)).atKey (.string k) z = heldOr (kvGet k l) z := toL_get k l z
theorem kvGet_put (k k' : List UInt8) (v : Value) (kv : KV) : kvGet k (kvPut k' v kv) = if k = k' then some v else kvGet k kv := by
  apply get_of_atKey
  intro z
  rw [← toL_get', ← toL_put]
  by_cases h : k = k'
  · subst h
    rw [if_pos rfl, Go.Maps.atKey_put_same ⟨_, rfl⟩ (by trivial)]; rfl
  · rw [if_neg h, Go.Maps.atKey_put_other (by simpa using h), toL_get']
theorem kvGet_del (k k' : List UInt8) (kv : KV) : kvGet k (kvDel k' kv) = if k = k' then none else kvGet k kv := by
  apply get_of_atKey
  intro z
  rw [← toL_get', ← toL_delD]
  by_cases h : k = k'
  · subst h
    rw [if_pos rfl, Go.Maps.atKey_del_same]; rfl
  · rw [if_neg h, Go.Maps.atKey_del_other (by simpa using h), toL_get']
theorem kvPut_length (k : List UInt8) (v : Value) (kv : KV) : (kvPut k v kv).length ≤ kv.length + 1 := by
  have h : ∀ (x : List UInt8 × Value) (l : KV), (kvIns x l).length = l.length + 1 := by
    intro x l
    induction l with
    | nil => rfl
    | cons y r ih => rw [kvIns]; split <;> simp [ih]
  rw [kvPut, h]
  have := List.length_filter_le (fun p : List UInt8 × Value => !(p.1 == k)) kv
  unfold kvDel
  omega

/-- One of api's puts. -/
structure PutM where
  key : List UInt8
  blob : List UInt8
  gone : Bool
def putCells1 (p : PutM) : List Value := [.string (S p.key), .string (S p.blob), .bool p.gone]
def putsCells (l : List PutM) : List Value := l.flatMap putCells1
theorem putsCells_at : ∀ (l : List PutM) (k : Nat) (h : k < l.length), (putsCells l)[k * 3]? = some (.string (S l[k].key)) ∧ (putsCells l)[k * 3 + 1]? = some (.string (S l[k].blob)) ∧ (putsCells l)[k * 3 + 2]? = some (.bool l[k].gone)
  | a :: l, 0, _ => by simp [putsCells, putCells1]
  | a :: l, k + 1, h => by
    have := putsCells_at l k (by simpa using h)
    have e1 : putsCells (a :: l) = putCells1 a ++ putsCells l := by simp [putsCells]
    have e2 : (k + 1) * 3 = k * 3 + 3 := by omega
    rw [e1, e2]
    simpa [putCells1] using this
/-- A slice of puts. -/
def PutsAt (w : World) (v : Value) (l : List PutM) : Prop := ∃ A cap, v = .slice A l.length cap ∧ Rd w A (putsCells l)

/-- objects.may: what is asked of puts. -/
def mayGo : List (List UInt8) → List PutM → Bool
  | _, [] => true
  | had, p :: r => if p.key.length = 0 ∨ 300 < p.key.length ∨ had.contains p.key = true ∨ 131072 < p.blob.length then false else mayGo (p.key :: had) r
def mayF (l : List PutM) : Bool := mayGo [] l

set_option maxRecDepth 100000 in
set_option maxHeartbeats 1000000 in
theorem may_spec {w : World} {v : Value} {l : List PutM} (hv : PutsAt w v l) (hl : l.length ≤ 1000000) (hsz : ∀ p ∈ l, p.key.length ≤ 4294967296 ∧ p.blob.length ≤ 4294967296) :
    Calls Tryz.prog 44 #[v] w fun e w' => e = .returned (.bool (mayF l)) ∧ Same w w' := by
  obtain ⟨A, cap, rfl, hr⟩ := hv
  have hmk := @run_makeMap Tryz.prog
  have hm0 := MapAt.made 9 w
  have hS0 : Same w (w.alloc (.map #[] 0)) := (Chg.refl _ w).alloc _
  go_enter Tryz.func44, Tryz.ntmps44
  go_wp2
  go_loopw [9] (fun i wr => ∃ (m : Nat) (had : List (List UInt8)) (kv : KV), m ≤ l.length ∧ i = .int .i64 m ∧ MapAt 9 wr w.heap.size kv ∧ kv.length ≤ m ∧ (∀ k, kvGet k kv = if had.contains k then some (.bool true) else none) ∧ mayGo had (l.drop m) = mayF l ∧ Same w wr) (fun i _ => l.length - (intOf i).toNat)
  case atStart => exact ⟨0, [], [], Nat.zero_le _, rfl, hm0, Nat.le_refl _, fun k => rfl, rfl, hS0⟩
  case round =>
    obtain ⟨m, had, kv, hml, rfl, hm, hkl, hget, hmay, hch⟩ := hrel
    have Hmay := Lib.hid hmay
    clear hmay
    by_cases hlt : m < l.length
    · have hr' := hr.same hch
      have hpc : 0 < (putsCells l).length := by
        have := (List.getElem?_eq_some_iff.1 (putsCells_at l m hlt).1).1
        omega
      obtain ⟨b, off, rfl, hrr⟩ := hr'.at_ hpc
      have c0 := hrr _ _ (putsCells_at l m hlt).1
      have c1 := hrr _ _ (putsCells_at l m hlt).2.1
      have c2 := hrr _ _ (putsCells_at l m hlt).2.2
      rw [← Nat.add_assoc] at c1 c2
      obtain ⟨hk1, hk2⟩ := hsz _ (List.getElem_mem hlt)
      have hdr : l.drop m = l[m] :: l.drop (m + 1) := List.drop_eq_getElem_cons hlt
      have hmay2 := Hmay.out
      rw [hdr, mayGo] at hmay2
      have Hm2 := Lib.hid hmay2
      clear hmay2 Hmay hdr hr hr' hrr hsz hpc
      generalize l[m] = p at *
      have hX : Same wr (wr.alloc (.cells #[.string (S p.key), .string (S p.blob), .bool p.gone] 43)) := (Chg.refl _ wr).alloc _
      have hmX := hm.same hX
      have hlk := MapAt.look (t := 136) (e := 4) hmX Tryz.underlying9 Tryz.underlying136 (Tryz.zeroValue4 _) (S p.key) (by rw [S_size]; simp only [maxLen]; omega) false
      rw [show (S p.key).data.toList = p.key from rfl, hget] at hlk
      have hlv : lookV false (if had.contains p.key = true then some (Value.bool true) else none) (.bool false) = .bool (had.contains p.key) := by
        cases had.contains p.key <;> rfl
      rw [hlv] at hlk
      obtain ⟨W', hrun, hm', hc'⟩ := MapAt.put (t := 136) (e := 4) hmX Tryz.underlying9 Tryz.underlying136 (by simp only [maxLen]; omega) (S p.key) (by rw [S_size]; simp only [maxLen]; omega) (.bool true)
      rw [show (S p.key).data.toList = p.key from rfl] at hm'
      have hgt' := fun k => kvGet_put k p.key (.bool true) kv
      have hln := kvPut_length p.key (.bool true) kv
      have hchX := hch.trans hX
      have hbel := hm0.lt
      have e0 := eqL p.key []
      have hsk := S_size p.key
      have hsb := S_size p.blob
      have z0 : p.key = [] ↔ p.key.length = 0 := List.length_eq_zero_iff.symm
      have Z0 := Lib.hid z0
      clear hlv z0 hmX hX hm
      have hfalse : ∀ (hb : p.key.length = 0 ∨ 300 < p.key.length ∨ had.contains p.key = true ∨ 131072 < p.blob.length), mayF l = false := fun hb => by rw [← Hm2.out, if_pos hb]
      have Hf := Lib.hid hfalse
      clear hfalse
      generalize hbk : S p.key = ks at *
      generalize hbb : S p.blob = bs at *
      generalize hhad : had.contains p.key = hd at *
      have Hhad := Lib.hid hhad
      clear hhad hbk hbb
      cases hb0 : (ks.toList == [])
      · rw [hb0] at e0
        have n0 : ¬ p.key.length = 0 := fun h => by rw [decide_eq_true (Z0.out.2 h)] at e0; cases e0
        by_cases hb1 : 300 < p.key.length
        · have hb1' : (300 : Int) < (p.key.length : Int) := by omega
          have hmf := Hf.out (.inr (.inl hb1))
          clear e0
          go_wp2
          go_ret
          first | exact ⟨rfl, hchX⟩ | exact ⟨by rw [hmf]; rfl, hchX⟩
        · have hb1' : ¬ (300 : Int) < (p.key.length : Int) := by omega
          clear e0
          cases hd
          · by_cases hb3 : 131072 < p.blob.length
            · have hb3' : (131072 : Int) < (p.blob.length : Int) := by omega
              have hmf := Hf.out (.inr (.inr (.inr hb3)))
              go_wp2
              go_ret
              first | exact ⟨rfl, hchX⟩ | exact ⟨by rw [hmf]; rfl, hchX⟩
            · have hb3' : ¬ (131072 : Int) < (p.blob.length : Int) := by omega
              have hgo := Hm2.out
              rw [if_neg (by
                rintro (h | h | h | h)
                · exact n0 h
                · exact hb1 h
                · cases h
                · exact hb3 h)] at hgo
              have Hgo := Lib.hid hgo
              clear hgo Hm2 Hf
              go_wp2
              refine ⟨⟨m + 1, p.key :: had, kvPut p.key (.bool true) kv, by omega, rfl, hm', by omega, fun k => ?_, Hgo.out, hchX.trans' hc' (fun _ _ h => h) (fun j hj e => absurd hj (by omega))⟩, ?_⟩
              · rw [hgt', hget]
                by_cases hkk : k = p.key
                · subst hkk; simp
                · have : ((p.key :: had).contains k) = had.contains k := by simp [hkk]
                  rw [if_neg hkk, this]
              · simp only [intOf]; omega
          · have hmf := Hf.out (.inr (.inr (.inl rfl)))
            go_wp2
            go_ret
            first | exact ⟨rfl, hchX⟩ | exact ⟨by rw [hmf]; rfl, hchX⟩
      · rw [hb0] at e0
        have n0 : p.key.length = 0 := Z0.out.1 (by simpa using e0.symm)
        have hmf := Hf.out (.inl n0)
        clear e0
        go_wp2
        go_ret
        first | exact ⟨rfl, hchX⟩ | exact ⟨by rw [hmf]; rfl, hchX⟩
    · go_wp2
      go_ret
      have h1 := Hmay.out
      rw [List.drop_of_length_le (by omega), mayGo] at h1
      rw [← h1]
      exact ⟨rfl, hch⟩
end Go.Proofs.Obj
