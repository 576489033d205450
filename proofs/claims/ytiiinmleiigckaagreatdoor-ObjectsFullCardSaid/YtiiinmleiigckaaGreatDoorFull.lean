/- ObjectsFull holds: on a small disk a blob that is too much is told to be, and all is as it was; what there is room for by what is promised goes. For every input; the card ties the two tables that the row lists. -/
import Derived.Test.YtiiinmleiigckaaGreatDoorGZB
import Derived.Test.YtiiinmleiigckaaGreatDoorGZC
import Derived.Test.YtiiinmleiigckaaGreatDoorCards
import Derived.Test.YtiiinmleiigckaaGreatDoorTie
import Derived.Deep.DeepHandedRow
import Derived.Lib.LaidTab
set_option linter.unusedVariables false
set_option linter.unusedSimpArgs false

namespace Go.Proofs.Obj
open Go Go.RowKit Go.Shelf

/-- What a disk bears fits on it. -/
theorem DGood.fits {D : Dk} {turn : Nat} {idx : List Nat} {tab : Tab} {m : MpL} (h : DGood D turn idx tab m) {k b : List UInt8} (hx : (k, b) ∈ m) : (b.length + 63) / 64 + 2 ≤ D.firm.length := by
  rw [← h.blobs] at hx
  obtain ⟨y, hy, he⟩ := List.mem_map.1 hx
  obtain ⟨rfl, rfl⟩ := Prod.mk.inj he
  have h1 := (h.good.ok y hy).2.2.2.1
  rw [h.blob hy]
  have hsub : ∀ a ∈ y.2.secs, a ∈ idx ++ allSecs tab := fun a ha => List.mem_append_right _ (mem_allSecs hy ha)
  have hnd : (0 :: 1 :: y.2.secs).Nodup := by
    rw [List.nodup_cons, List.nodup_cons]
    refine ⟨fun h0 => ?_, fun h0 => ?_, ?_⟩
    · rcases List.mem_cons.1 h0 with h0 | h0
      · cases h0
      · have := (h.good.rng 0 (hsub 0 h0)).1; omega
    · have := (h.good.rng 1 (hsub 1 h0)).1; omega
    · have h2 := (List.nodup_append.1 h.good.nodup).2.1
      unfold allSecs at h2
      exact (List.pairwise_flatMap.1 h2).1 y hy
  have := le_of_nodup_range (n := D.firm.length) hnd (fun a ha => by
    have := h.good.n0
    rcases List.mem_cons.1 ha with rfl | ha
    · omega
    · rcases List.mem_cons.1 ha with rfl | ha
      · omega
      · exact (h.good.rng a (hsub a ha)).2)
  simp only [List.length_cons] at this
  rw [h1] at this
  exact this

/-- A commit for which there is no room. -/
theorem commit_full {w : World} {s turn : Nat} {idx : List Nat} {tab : Tab} {L : DL} {D : Dk} {m : MpL} {v : Value} {l : List PutM} (h : LiveM w L s D turn idx tab m) (hv : PutsAt w v l) (hll : l.length ≤ 64) (hm : mayF l = true) (hfu : D.fuse = -1)
    {k b : List UInt8} (hx : (k, b) ∈ mpPuts m l) (hr : D.firm.length < (b.length + 63) / 64 + 2) (ht : turn + 1 < 1000000) :
    Calls Tryz.prog 21 #[.pointer (some ⟨s, 0, none⟩), v] w fun e w' => ∃ (L' : DL), e = .returned (.int .i64 6) ∧ L'.d = L.d ∧ L'.fb = L.fb ∧ (∀ k, L'.fp k → L.fp k ∨ w.heap.size ≤ k) ∧ Chg (fun k => k = s ∨ L.fp k) w w' ∧ LiveM w' L' s D turn idx tab m := by
  refine (commit_live h hv hll (fun p hp => by have := mayF_all hm p hp; omega) ht).mono ?_
  rintro e w' ⟨L', D', c, rfl, h1, h2, h3, h4, hE⟩
  rcases hE with ⟨a1, _⟩ | ⟨_, rfl, _, rfl, hL⟩ | ⟨_, rfl, idx2, tab2, hL, a5, a6⟩ | ⟨_, _, _, _, a5, _⟩
  · rw [hm] at a1; cases a1
  · exact ⟨L', rfl, h1, h2, h3, h4, hL⟩
  · have := hL.dg.fits hx
    omega
  · exact absurd hfu a5

def kSmall : List UInt8 := [115, 109, 97, 108, 108]
def kLarge : List UInt8 := [108, 97, 114, 103, 101]
def kMore : List UInt8 := [109, 111, 114, 101]
theorem full_may1 (b : List UInt8) (hb : b.length ≤ 1000) : mayF [⟨kSmall, b, false⟩] = true := by
  unfold mayF; rw [mayGo, mayGo, if_neg]
  simp [kSmall]; omega
theorem full_may2 (b : List UInt8) (hb : b.length ≤ 100000) : mayF [⟨kLarge, b, false⟩, ⟨kSmall, [], true⟩] = true := by
  unfold mayF; rw [mayGo, mayGo, mayGo, if_neg, if_neg]
  · simp [kSmall, kLarge]
  · simp [kLarge]; omega
theorem full_may3 (b : List UInt8) (hb : b.length ≤ 10000) : mayF [⟨kMore, b, false⟩] = true := by
  unfold mayF; rw [mayGo, mayGo, if_neg]
  simp [kMore]; omega
theorem full_puts1 (b : List UInt8) : mpPuts [] [⟨kSmall, b, false⟩] = [(kSmall, b)] := rfl
theorem full_puts2 (a b : List UInt8) : mpPuts [(kSmall, a)] [⟨kLarge, b, false⟩, ⟨kSmall, [], true⟩] = [(kLarge, b)] := rfl
theorem full_puts3 (a b : List UInt8) : mpPuts [(kSmall, a)] [⟨kMore, b, false⟩] = [(kMore, b), (kSmall, a)] := rfl
theorem full_get1 (a : List UInt8) : getF [(kSmall, a)] kSmall = (a, 0) := rfl
theorem full_get2 (a : List UInt8) : getF [(kSmall, a)] kLarge = ([], 2) := rfl
theorem full_need1 (a : List UInt8) (ha : a.length = 3) : needOf [(kSmall, a)] = 2 := by
  simp [needOf, kSmall, ha]
/-- Two puts, laid anew. -/
theorem put_new2 (w : World) (k b k2 b2 : List UInt8) (g g2 : Bool) : PutsAt (w.alloc (.cells #[.string (S k), .string (S b), .bool g, .string (S k2), .string (S b2), .bool g2] 43)) (.slice (some ⟨w.heap.size, 0, none⟩) 2 2) [⟨k, b, g⟩, ⟨k2, b2, g2⟩] :=
  ⟨_, 2, rfl, .inr ⟨_, 0, rfl, fun j u hu => by
    rw [Nat.zero_add]
    exact ((Blk.new w 43 [.string (S k), .string (S b), .bool g, .string (S k2), .string (S b2), .bool g2]).cell j).trans (by simpa [putsCells, putCells1] using hu)⟩⟩
theorem zero8_u8s (n : Nat) : u8s (List.replicate n 0) = zero8 n := by simp [u8s, zero8]
theorem full_need3 (a b : List UInt8) (ha : a.length = 3) (hb : b.length ≤ 1020) : needOf [(kMore, b), (kSmall, a)] ≤ 36 := by
  simp [needOf, kSmall, kMore, ha]; omega

/-- 'string(make([]byte, n))'. -/
theorem conv_zero (mm : Nat) (W : World) : (convert 38 9 (.slice (some ⟨W.heap.size, 0, none⟩) mm mm)).run Tryz.prog (W.alloc (.cells (zero8 mm).toArray 5)) = .ok (.string (S (List.replicate mm 0))) (W.alloc (.cells (zero8 mm).toArray 5)) := by
  have := back_blk (W := W.alloc (.cells (zero8 mm).toArray 5)) (g := W.heap.size) (l := List.replicate mm 0) (by rw [zero8_u8s]; exact Blk.new W 5 _) mm
  rw [List.length_replicate] at this
  exact this
theorem conv_three (c : Nat) (hc : c < 256) (W : World) : (convert 38 9 (.slice (some ⟨W.heap.size, 0, none⟩) 3 3)).run Tryz.prog (W.alloc (.cells #[.int .u8 (c : Int), .int .u8 (((c : Int) + 1) % 256), .int .u8 (((c : Int) + 2) % 256)] 5)) =
    .ok (.string (S [UInt8.ofNat c, UInt8.ofNat (c + 1), UInt8.ofNat (c + 2)])) (W.alloc (.cells #[.int .u8 (c : Int), .int .u8 (((c : Int) + 1) % 256), .int .u8 (((c : Int) + 2) % 256)] 5)) := by
  refine back_blk (W := W.alloc (.cells #[.int .u8 (c : Int), .int .u8 (((c : Int) + 1) % 256), .int .u8 (((c : Int) + 2) % 256)] 5)) (g := W.heap.size) (l := [UInt8.ofNat c, UInt8.ofNat (c + 1), UInt8.ofNat (c + 2)]) ?_ 3
  have e : u8s [UInt8.ofNat c, UInt8.ofNat (c + 1), UInt8.ofNat (c + 2)] = [.int .u8 (c : Int), .int .u8 (((c : Int) + 1) % 256), .int .u8 (((c : Int) + 2) % 256)] := by
    simp only [u8s, List.map_cons, List.map_nil, UInt8.toNat_ofNat']
    have h1 : ((c % 2 ^ 8 : Nat) : Int) = c := by omega
    have h2 : (((c + 1) % 2 ^ 8 : Nat) : Int) = ((c : Int) + 1) % 256 := by omega
    have h3 : (((c + 2) % 2 ^ 8 : Nat) : Int) = ((c : Int) + 2) % 256 := by omega
    rw [h1, h2, h3]
  rw [e]
  exact Blk.new W 5 _

set_option maxRecDepth 100000 in
set_option maxHeartbeats 4000000 in
theorem full_walk {w : World} {n c : Nat} (hn : n < 256) (hc : c < 256) :
    Calls Tryz.prog 6 #[.int .u8 n, .int .u8 c] w fun e w' => e = .returned (.bool true) ∧ Same w w' := by
  obtain ⟨sm, hsm⟩ : ∃ sm, [UInt8.ofNat c, UInt8.ofNat (c + 1), UInt8.ofNat (c + 2)] = sm := ⟨_, rfl⟩
  have hsl : sm.length = 3 := by rw [← hsm]; rfl
  have hc3 := conv_three c hc
  rw [hsm] at hc3
  clear hsm
  go_enter Tryz.func6, Tryz.ntmps6
  go_wp2_with fail
  refine (new_live 300 (by decide) (by decide)).mono ?_
  rintro e w1 ⟨L, rfl, k1, hfp, hD⟩
  have hop := open_live hD (new_good (by decide) (by decide))
  go_wp2_with (first
    | (go_at_call 13; refine hop.mono ?_; rintro e w2 ⟨s, rfl, hL, hs, k2⟩)
    | (go_at_call 14; refine (err_spec _ _).mono ?_; rintro e w3 ⟨rfl, rfl⟩))
  have hss : ((S sm).toList == (S sm).toList) = true := by simp
  have hn0 := full_need1 sm hsl
  obtain ⟨mm, hmm, hm5⟩ : ∃ mm : Nat, 19200 + (n : Int) = (mm : Int) ∧ 19200 ≤ mm ∧ mm ≤ 19500 := ⟨19200 + n, by omega, by omega, by omega⟩
  obtain ⟨m4, hm4, hm45⟩ : ∃ m4 : Nat, (n : Int) * 4 = (m4 : Int) ∧ m4 ≤ 1020 := ⟨n * 4, by omega, by omega⟩
  have hmk1 : ∀ W, (Instr.makeSlice 38 (.int .i64 (mm : Int)) (.int .i64 (mm : Int))).run Tryz.prog W = .ok (.slice (some ⟨W.heap.size, 0, none⟩) mm mm) (W.alloc (.cells (zero8 mm).toArray 5)) := fun W => make_eq 38 5 (.int .u8 0) 1 Tryz.underlying38 Tryz.info5 rfl mm (by omega) (by omega) W
  have hmk2 : ∀ W, (Instr.makeSlice 38 (.int .i64 (m4 : Int)) (.int .i64 (m4 : Int))).run Tryz.prog W = .ok (.slice (some ⟨W.heap.size, 0, none⟩) m4 m4) (W.alloc (.cells (zero8 m4).toArray 5)) := fun W => make_eq 38 5 (.int .u8 0) 1 Tryz.underlying38 Tryz.info5 rfl m4 (by omega) (by omega) W
  have hz1 := conv_zero mm
  have hz2 := conv_zero m4
  have hl1 : (List.replicate mm (0 : UInt8)).length = mm := List.length_replicate
  have hl2 : (List.replicate m4 (0 : UInt8)).length = m4 := List.length_replicate
  have hsw : w.heap.size ≤ s := Nat.le_trans k1.size hs
  have kA : ∀ (W : World) (a b : Obj), Same W ((W.alloc a).alloc b) := fun W a b => ((Chg.refl _ W).alloc a).alloc b
  have kT : ∀ {W W' : World} {L2 : DL}, Same w W → (∀ k, L2.fp k → w.heap.size ≤ k) → Chg (fun k => k = s ∨ L2.fp k) W W' → Same w W' := fun k1 hf k2 => k1.trans' k2 (fun _ _ h => h) (fun j hj e => e.elim (fun e => by omega) (fun e => by have := hf j e; omega))
  have k02 := k1.trans k2
  generalize List.replicate mm (0 : UInt8) = bm at *
  generalize List.replicate m4 (0 : UInt8) = b4 at *
  have hc1 := fun (o : Obj) => commit_sure (hL.same (kA w2 o _)) (put_new (w2.alloc o) kSmall sm false) (by simp) (full_may1 sm (by omega)) rfl (by rw [full_puts1, hn0, show needOf ([] : MpL) = 0 from rfl]; simp) (by omega)
  simp only [full_puts1, World.size_alloc] at hc1
  clear hop hL hs k2 hD
  have HC := Lib.hid hc1
  clear hc1
  go_wp2_with fail
  refine (HC.out _).mono ?_
  rintro e w3 ⟨L3, D3, i3, t3, rfl, hd3, _, hf3, k3, hL3, hn3, hu3⟩
  have k03 := kT (k02.trans (kA w2 _ _)) hfp k3
  have hfp3 : ∀ k, L3.fp k → w.heap.size ≤ k := fun k hk => (hf3 k hk).elim (hfp k) (fun h => by have := k02.size; omega)
  clear HC k3 k02
  have hc2 := fun (o : Obj) => commit_full (hL3.same (kA w3 o _)) (put_new2 (w3.alloc o) kLarge bm kSmall [] false true) (by simp) (full_may2 bm (by omega)) hu3 (k := kLarge) (b := bm) (by rw [full_puts2]; simp) (by rw [hn3, hl1]; simp; omega) (by omega)
  simp only [World.size_alloc] at hc2
  have HC := Lib.hid hc2
  clear hc2
  go_wp2_with fail
  refine (HC.out _).mono ?_
  rintro e w4 ⟨L4, rfl, hd4, _, hf4, k4, hL4⟩
  have k04 := kT (k03.trans (kA w3 _ _)) hfp3 k4
  have hfp4 : ∀ k, L4.fp k → w.heap.size ≤ k := fun k hk => (hf4 k hk).elim (hfp3 k) (fun h => by have := k03.size; omega)
  clear HC k4 k03 hfp3 hL3
  have hg1 := get_live hL4 kSmall (by decide)
  rw [full_get1] at hg1
  go_wp2_with fail
  refine hg1.mono ?_
  rintro e w5 ⟨rfl, k5⟩
  have hL5 := hL4.same k5
  have hg2 := get_live hL5 kLarge (by decide)
  rw [full_get2] at hg2
  clear hg1
  go_wp2_with fail
  refine hg2.mono ?_
  rintro e w6 ⟨rfl, k6⟩
  have hL6 := hL5.same k6
  have k06 := (k04.trans k5).trans k6
  have hc3 := fun (o : Obj) => commit_sure (hL6.same (kA w6 o _)) (put_new (w6.alloc o) kMore b4 false) (by simp) (full_may3 b4 (by omega)) hu3 (by rw [full_puts3, hn0, hn3]; have := full_need3 sm b4 hsl (by omega); simp; omega) (by omega)
  simp only [full_puts3, World.size_alloc] at hc3
  have HC := Lib.hid hc3
  clear hc3 hg2 hL4 hL5 k04 k5 k6
  go_wp2_with fail
  refine (HC.out _).mono ?_
  rintro e w7 ⟨L7, D7, i7, t7, rfl, hd7, _, hf7, k7, hL7, hn7, hu7⟩
  have k07 := kT (k06.trans (kA w6 _ _)) hfp4 k7
  clear HC k7 hL6 k06
  have hk := keys_live hL7
  go_wp2_with fail
  refine hk.mono ?_
  rintro e w8 ⟨v8, rfl, hrow, k8⟩
  obtain ⟨A8, c8, rfl⟩ := own_form hrow
  have k08 := k07.trans k8
  clear hk hrow k8 k07 hL7
  go_wp2_with (first
    | (go_at_call 14; refine (err_spec _ _).mono ?_; rintro e w9 ⟨rfl, rfl⟩)
    | (go_at_call 12; refine (awake_spec _).mono ?_; rintro e w10 ⟨rfl, k10⟩))
  go_ret
  exact ⟨rfl, k08.trans k10⟩
end Go.Proofs.Obj

namespace Go.Proofs.YtiiinmleiigckaaGreatDoor
open Go.ChangeShapes Go.WideShapes Go.ChangeAt Go.RowKit Go.Proofs.Obj

set_option maxRecDepth 100000 in
/-- WHAT THE WALK GIVES, FOR EVERY ARGUMENT. -/
theorem objectsFull_contract (H : Type) (enc : TypeId × Value → H) (W : World) (base : Nat) (args : Array Value) (ds gs : List (DataW H)) (before : List MemPlace)
    (hval : ∀ (j : Nat) t v, Tryz.f6.params[j]? = some t → args[j]? = some v → Value.okWide Tryz.prog W .any base t v)
    (hW : DataW.Whole enc Tryz.prog Tryz.f6.params.toList Rows.objectsFullSpec.vars false W args.toList ds gs before)
    (hz : (DataW.weightsEach Tryz.prog (Tryz.f6.params.toList ++ (OpenSpec.ofChange Rows.objectsFullSpec).bare.plain.varTypes Tryz.prog) (ds ++ gs)).all (· ≤ reachBytes) = true) :
    Calls Tryz.prog 6 args W fun e W' => ∃ v, e = .returned v ∧ Rows.objectsFullSpec.post enc Tryz.prog Tryz.f6 false true false false W args v W' := by
  have hW' := hW
  obtain ⟨p, q, hA0, hV, rfl, hfz, hnd⟩ := hW
  have hA : DataW.TrodAll enc Tryz.prog W 0 (fun _ => true) true Tryz.f6.params.toList args.toList ds p := hA0
  rw [Tryz.params6] at hA hval
  obtain ⟨v0, vs0, d0, ds0, p0, q0, hargs, rfl, rfl, h0, r0⟩ := trodAll_cons hA
  obtain ⟨v1, vs1, d1, ds1, p1, q1, rfl, rfl, rfl, h1, r1⟩ := trodAll_cons r0
  obtain ⟨rfl, rfl, rfl⟩ := trodAll_nil r1
  obtain rfl : args = #[v0, v1] := by cases args; simp_all
  obtain ⟨rfl, rfl⟩ := trodVars_none hV
  obtain ⟨a0, rfl, rfl, rfl, w0⟩ := open_int Tryz.underlying5 (hval 0 5 v0 rfl rfl) h0
  obtain ⟨a1, rfl, rfl, rfl, w1⟩ := open_int Tryz.underlying5 (hval 1 5 v1 rfl rfl) h1
  clear hA0
  obtain ⟨n0, rfl, hn0⟩ := open_u8 w0
  obtain ⟨n1, rfl, hn1⟩ := open_u8 w1
  simp only [List.append_nil] at hW'
  refine (full_walk hn0 hn1).mono fun e W' ⟨he, hg⟩ => ?_
  subst he
  have hB := Chg.same_below hg
  exact ⟨_, rfl, _, _, _, [], _, [], hW', trodAll_mk1 (shut_bool Tryz.underlying4 _), (trodAll_cons_mk (shut_int Tryz.underlying5 w0) (trodAll_cons_mk (shut_int Tryz.underlying5 w1) trodAll_mk0)), rfl, hB.frame _, fun h => by cases h⟩

abbrev objectsFull_args : Array Value := #[.int .u8 0, .int .u8 0]
theorem objectsFull_laid (os : Os) : laidMet Tryz.prog Rows.objectsFullRow.laid ((laidWorld os).forCall (fun _ _ => 0) ⟨#[], objectsFull_args, []⟩).memory :=
  laidMet_of_run' 8 (by kernel_rfl) (by kernel_rfl)
theorem objectsFull_reads (os : Os) {H : Type} (enc : TypeId × Value → H) : ∃ places, DataW.whole enc Tryz.prog ((laidWorld os).forCall (fun _ _ => 0) ⟨#[], objectsFull_args, []⟩).memory Tryz.f6.params.toList Rows.objectsFullSpec.vars false objectsFull_args.toList 8 = some ([.lit (.int .u8 0), .lit (.int .u8 0)], [], places) :=
  ⟨[], by kernel_rfl⟩

set_option maxRecDepth 100000 in
theorem objectsFull_lifted (os : Os) (started : os.Started) (H : Type) (enc : TypeId × Value → H) (F : Stop.Interp) :
    ReturnsInHanded {} Tryz.checked os 6 .any ((OpenSpec.ofChange Rows.objectsFullSpec).preRow enc Tryz.prog Tryz.f6 Rows.objectsFullRow.domain false Rows.objectsFullRow.laid) (((OpenSpec.ofChange Rows.objectsFullSpec).at F).post enc Tryz.prog Tryz.f6 false true false false) := by
  obtain ⟨places, hx⟩ := objectsFull_reads os enc
  refine returnsInHanded_of_row (C := Tryz.checked) (s := OpenSpec.ofChange Rows.objectsFullSpec) ownT started (by kernel_rfl) Tryz.func6
    (witness_row_at (enc := enc) (C := Tryz.checked) false (laidWorld os) objectsFull_args rfl (by kernel_rfl) (by kernel_rfl) (by kernel_rfl)
      (OpenSpec.preRow_of_cond 8 hx (by kernel_rfl) (fun k hk => by cases hk) (by kernel_rfl) (objectsFull_laid os))) ?_
  intro W base args ds gs before hval hW _ hcond hz _ _ _
  exact objectsFull_contract H enc W base args ds gs before hval hW hz

theorem objectsFull_said : Rows.ObjectsFullSaid :=
  OpenClaim.holds_of_cond 6 Tryz.f6 rfl rfl rfl rfl rfl rfl rfl ⟨rfl, rfl, rfl, rfl, rfl⟩ rfl rfl rfl rfl rfl (by kernel_rfl) Tryz.func6 (by kernel_rfl)
    (of_decide_eq_true (by kernel_rfl)) (by unfold Func.isWrapper; first | (rw [if_pos (by decide +kernel)]; kernel_rfl) | (rw [if_neg (by decide +kernel)]; exact ⟨rfl, rfl⟩))
    (fun os started H enc _ F => by rw [OpenClaim.pre_eq_preRow]; exact objectsFull_lifted os started H enc F)

theorem objectsFull_plain (f : FuncId) (fn : Func) (hf : Tryz.pinned.checked.prog.funcNamed "shelfmark/shelfmarklaw17.ObjectsFull" = some f) (hfn : Tryz.pinned.checked.prog.funcs[f]? = some fn) :
    true = Tryz.pinned.checked.prog.looks [] ∧ ∀ (j : Nat) t, fn.params[j]? = some t → Tryz.pinned.checked.prog.wantsStandIn t = false := by
  obtain rfl : f = 6 := Option.some.inj ((show Tryz.prog.funcNamed "shelfmark/shelfmarklaw17.ObjectsFull" = some 6 by kernel_rfl).symm.trans hf) |>.symm
  obtain rfl : fn = Tryz.f6 := (Option.some.inj (Tryz.func6.symm.trans hfn)).symm
  refine ⟨by kernel_rfl, fun j t ht => ?_⟩
  rw [Tryz.params6] at ht
  have ht2 := Array.mem_of_getElem? ht
  simp only [List.mem_toArray, List.mem_cons, List.not_mem_nil, or_false] at ht2
  rcases ht2 with rfl | rfl
  · exact (show Tryz.prog.wantsStandIn 5 = false by kernel_rfl)
  · exact (show Tryz.prog.wantsStandIn 5 = false by kernel_rfl)

/-- THE CARD. -/
theorem objectsFull_card : Rows.ObjectsFullCardSaid :=
  Claim7.holds_tied_plain_at .later [] _ _ _ _ objectsFull_said (fun _ h => by cases h) (by kernel_rfl) (fun _ h => by cases h) objectsFull_row_tie rfl ⟨rfl, rfl⟩ (by kernel_rfl) rfl objectsFull_plain (by kernel_rfl)
#print axioms objectsFull_card
end Go.Proofs.YtiiinmleiigckaaGreatDoor
