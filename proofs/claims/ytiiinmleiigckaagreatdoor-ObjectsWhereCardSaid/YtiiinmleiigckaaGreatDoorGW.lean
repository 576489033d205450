/- What is proved here: live stores, maps. No condition but what each theorem says. -/
import Derived.Test.YtiiinmleiigckaaGreatDoorGV
set_option linter.unusedVariables false
set_option linter.unusedSimpArgs false

/- L1 -/
namespace Go.Proofs.Obj
open Go Go.RowKit Go.Shelf

/-- A live store, its map, and its disk without a fuse or with one. -/
structure LiveM (w : World) (L : DL) (s : Nat) (D : Dk) (turn : Nat) (idx : List Nat) (tab : Tab) (m : MpL) : Prop where
  disk : DiskAt w L D
  dg : DGood D turn idx tab m
  store : StoreAt w s L.d turn idx tab false
theorem LiveM.live {w : World} {L : DL} {s : Nat} {D : Dk} {turn : Nat} {idx : List Nat} {tab : Tab} {m : MpL} (h : LiveM w L s D turn idx tab m) : Live w L s D turn idx tab :=
  ⟨h.disk, h.dg.up, h.dg.loose, h.dg.good, h.dg.small, h.store⟩
theorem LiveM.same {w w' : World} {L : DL} {s : Nat} {D : Dk} {turn : Nat} {idx : List Nat} {tab : Tab} {m : MpL} (h : LiveM w L s D turn idx tab m) (k : Same w w') : LiveM w' L s D turn idx tab m :=
  ⟨h.disk.same k, h.dg, h.store.same k⟩

/-- A map of the size that may be. -/
def MSmall (m : MpL) : Prop := m.length ≤ 40000 ∧ ∀ x ∈ m, x.1.length ≤ 300 ∧ x.2.length ≤ 131072
theorem DGood.len {D : Dk} {turn : Nat} {idx : List Nat} {tab : Tab} {m : MpL} (h : DGood D turn idx tab m) : tab.length ≤ 34000 := by
  have h7 : ∀ t : Tab, (∀ x ∈ t, EntOK x) → t.length * 7 ≤ (rowBytes t).length := by
    intro t
    induction t with
    | nil => intro _; exact Nat.le_refl _
    | cons x t ih =>
      intro h
      have h1 := ih (fun y hy => h y (by simp [hy]))
      have h2 := (h x (by simp)).1
      unfold rowBytes at *
      rw [List.flatMap_cons, List.length_append, List.length_cons]
      have : (entBytes x).length = 2 + x.1.length + 4 + 2 * x.2.secs.length := by unfold entBytes; rw [List.length_append, List.length_append, List.length_append, littleL_length, littleL_length, secs_len]
      omega
  have := h7 tab h.good.ok
  have := h.good.rowLen
  omega
theorem DGood.keys {D : Dk} {turn : Nat} {idx : List Nat} {tab : Tab} {m : MpL} (h : DGood D turn idx tab m) : m.map (·.1) = tab.map (·.1) := by rw [← h.blobs, gMap_keys]
theorem DGood.rising {D : Dk} {turn : Nat} {idx : List Nat} {tab : Tab} {m : MpL} (h : DGood D turn idx tab m) : RisingK m := by
  unfold RisingK; rw [h.keys]; exact h.good.rising
theorem DGood.blob {D : Dk} {turn : Nat} {idx : List Nat} {tab : Tab} {m : MpL} (h : DGood D turn idx tab m) {x : List UInt8 × Ent} (hx : x ∈ tab) : (blobOf D.sector x.2).length = x.2.size :=
  blobOf_length h.good.size (fun a ha => (h.good.rng a (by simp [mem_allSecs hx ha])).2) (h.good.ok x hx).2.2.2.1
theorem DGood.msmall {D : Dk} {turn : Nat} {idx : List Nat} {tab : Tab} {m : MpL} (h : DGood D turn idx tab m) : m.length ≤ 34000 ∧ ∀ x ∈ m, x.1.length ≤ 300 ∧ x.2.length ≤ 131072 := by
  refine ⟨?_, fun x hx => ?_⟩
  · have := congrArg List.length h.keys
    simp at this
    rw [this]; exact h.len
  · rw [← h.blobs] at hx
    obtain ⟨y, hy, rfl⟩ := List.mem_map.1 hx
    have := h.small y hy
    have := h.blob hy
    dsimp only
    omega
theorem mpPut_length (m : MpL) (p : PutM) : (mpPut m p).length ≤ m.length + 1 := by
  unfold mpPut
  split
  · have := gDel_length p.key m; omega
  · have := (gPut_perm p.key p.blob m).length_eq
    have := gDel_length p.key m
    simp at *; omega
theorem mpPuts_small : ∀ (l : List PutM) {m : MpL} {n : Nat}, m.length + l.length ≤ n → (∀ x ∈ m, x.1.length ≤ 300 ∧ x.2.length ≤ 131072) → (∀ p ∈ l, p.key.length ≤ 300 ∧ p.blob.length ≤ 131072) →
    (mpPuts m l).length ≤ n ∧ ∀ x ∈ mpPuts m l, x.1.length ≤ 300 ∧ x.2.length ≤ 131072
  | [], m, n, h1, h2, _ => ⟨show m.length ≤ n by simpa using h1, h2⟩
  | p :: l, m, n, h1, h2, h3 => by
    have := mpPut_length m p
    refine mpPuts_small l (m := mpPut m p) (by simp at h1; omega) (fun x hx => ?_) (fun q hq => h3 q (by simp [hq]))
    unfold mpPut at hx
    split at hx
    · exact h2 x (gDel_mem hx).1
    · rcases gPut_mem hx with rfl | ⟨hx, _⟩
      · exact h3 p (by simp)
      · exact h2 x hx
theorem mpPuts_rising : ∀ (l : List PutM) {m : MpL}, RisingK m → RisingK (mpPuts m l)
  | [], _, h => h
  | p :: l, m, h => by
    refine mpPuts_rising l (m := mpPut m p) ?_
    unfold mpPut
    split
    · exact h.del _
    · exact h.put _ _

theorem open_live {w : World} {L : DL} {D : Dk} {turn : Nat} {idx : List Nat} {tab : Tab} {m : MpL} (hD : DiskAt w L D) (hg : DGood D turn idx tab m) :
    Calls Tryz.prog 13 #[.pointer (some ⟨L.d, 0, none⟩)] w fun e w' => ∃ s, e = .returned (.tuple #[.pointer (some ⟨s, 0, none⟩), .int .i64 0]) ∧ LiveM w' L s D turn idx tab m ∧ w.heap.size ≤ s ∧ Same w w' := by
  refine (open_up hD (by rw [hg.loose]; simp) hg.up hg.good.n0 hg.good.bears).mono ?_
  rintro e w' ⟨s, rfl, h1, h2, h3⟩
  exact ⟨s, rfl, ⟨hD.same h3, hg, h1⟩, h2, h3⟩

theorem gGet_of {α : Type} {k : List UInt8} {v : α} : ∀ {l : KL α}, (l.map (·.1)).Nodup → (k, v) ∈ l → gGet k l = some v
  | [], _, h => by simp at h
  | a :: l, hn, h => by
    rw [List.map_cons, List.nodup_cons] at hn
    unfold gGet
    rw [List.find?_cons]
    rcases List.mem_cons.1 h with h1 | h1
    · subst h1; simp
    · have hne : (a.1 == k) = false := by
        have : a.1 ≠ k := fun e => hn.1 (List.mem_map.2 ⟨(k, v), h1, e.symm⟩)
        simpa using this
      rw [hne]
      exact gGet_of hn.2 h1
/-- What Get hands back. -/
def getF (m : MpL) (k : List UInt8) : List UInt8 × Int := match gGet k m with | some b => (b, 0) | none => ([], 2)
theorem gGet_map {α β : Type} (f : α → β) (k : List UInt8) (l : KL α) : gGet k (gMap f l) = (gGet k l).map f := by
  unfold gGet gMap
  rw [List.find?_map]
  have e : ((fun p : List UInt8 × β => p.1 == k) ∘ fun x : List UInt8 × α => (x.1, f x.2)) = fun p => p.1 == k := rfl
  rw [e]
  cases l.find? fun p => p.1 == k <;> rfl
theorem get_live {w : World} {L : DL} {s : Nat} {D : Dk} {turn : Nat} {idx : List Nat} {tab : Tab} {m : MpL} (h : LiveM w L s D turn idx tab m) (key : List UInt8) (hk : key.length ≤ 4294967296) :
    Calls Tryz.prog 22 #[.pointer (some ⟨s, 0, none⟩), .string (S key)] w fun e w' => e = .returned (.tuple #[.string (S (getF m key).1), .int .i64 (getF m key).2]) ∧ Same w w' := by
  have hf := find_spec h.store (S key) (by rw [S_size]; simp only [maxLen]; omega)
  rw [show (S key).data.toList = key from rfl] at hf
  have hg : gGet key m = (tabGet key tab).map (blobOf D.sector) := by rw [← h.dg.blobs, gGet_map, tabGet_eq]
  unfold getF
  rw [hg]
  unfold findF at hf
  rw [if_neg (by decide)] at hf
  cases ht : tabGet key tab with
  | none =>
    rw [ht] at hf
    refine (get_none (S key) hf (by decide)).mono ?_
    rintro e w' ⟨rfl, k⟩
    exact ⟨rfl, k⟩
  | some e =>
    rw [ht] at hf
    have hx : (key, e) ∈ tab := by
      unfold tabGet at ht
      obtain ⟨y, hy, hy2⟩ := Option.map_eq_some_iff.1 ht
      have h1 := List.mem_of_find?_eq_some hy
      have h2 := List.find?_some hy
      obtain ⟨y1, y2⟩ := y
      have : y1 = key := by simpa using h2
      subst this
      subst hy2
      exact h1
    obtain ⟨mb, iv, kv, hsb, _⟩ := h.store
    have hle := h.dg.blob hx
    have hsl : (blobOf D.sector e).length = e.size := hle
    unfold blobOf at hsl
    rw [List.length_take] at hsl
    have hfew := h.dg.good.few
    have hsub : e.secs.length ≤ (allSecs tab).length := by
      unfold allSecs
      have h9 : ∀ t : Tab, (key, e) ∈ t → e.secs.length ≤ (t.flatMap (·.2.secs)).length := by
        intro t
        induction t with
        | nil => intro h; simp at h
        | cons a t ih =>
          intro h
          rw [List.flatMap_cons, List.length_append]
          rcases List.mem_cons.1 h with rfl | h
          · dsimp only; omega
          · have := ih h; omega
      exact h9 tab hx
    rw [List.length_append] at hfew
    have hn1 := h.dg.good.n1
    refine (get_up hsb h.disk (by rw [h.dg.loose]; simp) h.dg.up (S key) hf (fun a ha => (h.dg.good.rng a (by simp [mem_allSecs hx ha])).2) (by omega) (by omega)).mono ?_
    rintro x w' ⟨rfl, k⟩
    exact ⟨rfl, k⟩

theorem keys_live {w : World} {L : DL} {s : Nat} {D : Dk} {turn : Nat} {idx : List Nat} {tab : Tab} {m : MpL} (h : LiveM w L s D turn idx tab m) :
    Calls Tryz.prog 23 #[.pointer (some ⟨s, 0, none⟩)] w fun e w' => ∃ v, e = .returned v ∧ w'.ownsRow w.heap.size 9 1 v m.length (keyCells (m.map (·.1))) ∧ Same w w' := by
  obtain ⟨mb, iv, kv, hsb, _, hm, ht⟩ := h.store
  have hk : kv.map (·.1) = m.map (·.1) := by rw [ht.keys, h.dg.keys]
  have hl : kv.length = m.length := by have := congrArg List.length hk; simpa using this
  have hs := h.dg.msmall
  refine (storeKeys_up hsb hm (by omega) (fun x hx => ?_)).mono ?_
  · have : x.1 ∈ m.map (·.1) := hk ▸ List.mem_map.2 ⟨x, hx, rfl⟩
    obtain ⟨y, hy, hyx⟩ := List.mem_map.1 this
    have := hs.2 y hy
    rw [hyx] at this
    omega
  · rintro e w' ⟨v, rfl, h1, h2⟩
    rw [hk, hl] at h1
    exact ⟨v, rfl, h1, h2⟩

/-- An error's number. -/
theorem err_spec (e : Int) (w : World) : Calls Tryz.prog 14 #[.int .i64 e] w fun x w' => x = .returned (.int .i64 e) ∧ w = w' := by
  go_enter Tryz.func14, Tryz.ntmps14
  go_wp2
  go_ret
  exact ⟨rfl, rfl⟩

theorem zeroSec_eq : zeroSec = zero64 := rfl
/-- A new disk bears nothing. -/
theorem new_good {n : Nat} (h1 : 32 ≤ n) (h2 : n ≤ 4096) : DGood ⟨List.replicate n zero64, [], false, -1⟩ 0 [] [] [] := by
  have hsec : ∀ a, a < n → Dk.sector ⟨List.replicate n zero64, [], false, -1⟩ a = zeroSec := fun a ha => by
    rw [sector_firm rfl]
    simp [List.getD, ha, zeroSec_eq]
  refine ⟨rfl, rfl, by show -1 ≤ (-1 : Int); omega, ⟨?_, ?_, rfl, by simp, by simp [RisingK, Rising], by simp [allSecs], by simp [allSecs], ?_, by omega, fun _ => rfl, ?_⟩, by simp, rfl⟩
  · simp; omega
  · simpa using h2
  · unfold HeadsAt
    rw [if_pos rfl]
    exact ⟨hsec 0 (by omega), hsec 1 (by omega), rfl, rfl⟩
  · intro a ha
    rw [hsec a (by simpa using ha)]
    rfl
end Go.Proofs.Obj

/- L2 -/
namespace Go.Proofs.Obj
open Go Go.RowKit Go.Shelf

/-- A slice of texts. -/
def TextsAt (w : World) (v : Value) (l : List (List UInt8)) : Prop := ∃ A cap, v = .slice A l.length cap ∧ Rd w A (keyCells l)
theorem TextsAt.same {w w' : World} {v : Value} {l : List (List UInt8)} (h : TextsAt w v l) (k : Same w w') : TextsAt w' v l := by
  obtain ⟨A, cap, hv, h⟩ := h
  exact ⟨A, cap, hv, h.same k⟩
theorem TextsAt.of_own {w : World} {base n : Nat} {v : Value} {l : List (List UInt8)} (h : w.ownsRow base 9 1 v n (keyCells l)) : TextsAt w v l := by
  have hn : n = l.length := by have := h.1; simp [keyCells] at this; omega
  subst hn
  rcases h.2 with ⟨rfl, h0⟩ | ⟨g, cap, cur, rfl, hb, hg, _⟩
  · exact ⟨none, 0, by rw [h0], .inl (by rw [List.eq_nil_of_length_eq_zero h0]; rfl)⟩
  · exact ⟨_, cap, rfl, .inr ⟨g, 0, rfl, own_rd h⟩⟩
theorem TextsAt.cell {w : World} {A : Option Addr} {n cap : Nat} {l : List (List UInt8)} (h : TextsAt w (.slice A n cap) l) : n = l.length ∧ ∀ j (hj : j < l.length), ∃ b off, A = some ⟨b, off, none⟩ ∧ w.cell? ⟨b, off + j, none⟩ = some (.string (S l[j])) := by
  obtain ⟨A', cap', hv, h⟩ := h
  cases hv
  refine ⟨rfl, fun j hj => ?_⟩
  obtain ⟨b, off, rfl, hr⟩ := h.at_ (by simp [keyCells]; omega)
  exact ⟨b, off, rfl, hr j _ (by simp [keyCells, hj])⟩

theorem strEq (a b : List UInt8) : ((S a).toList == (S b).toList) = decide (a = b) := by
  have e : (S b).toList = b := by rw [ByteArray.toList_eq]; rfl
  rw [e]; exact eqL a b
theorem S_inj {a b : List UInt8} (h : S a = S b) : a = b := by
  have := congrArg (fun s : ByteArray => s.data.toList) h
  simpa [S] using this

set_option maxRecDepth 100000 in
set_option maxHeartbeats 1000000 in
theorem sameTexts_spec {w : World} {v1 v2 : Value} {a b : List (List UInt8)} (h1 : TextsAt w v1 a) (h2 : TextsAt w v2 b) (ha : a.length ≤ 4294967296) (hb : b.length ≤ 4294967296) :
    Calls Tryz.prog 31 #[v1, v2] w fun e w' => e = .returned (.bool (decide (a = b))) ∧ Same w w' := by
  obtain ⟨A1, c1, rfl, hr1⟩ := h1
  obtain ⟨A2, c2, rfl, hr2⟩ := h2
  by_cases hl : a.length = b.length
  · have hne : ((a.length : Int) != (b.length : Int)) = false := by simp [hl]
    have hl' := Lib.hid hl
    have hbl : b.length = a.length := hl.symm
    rw [hbl]
    clear hl hne hbl hb
    go_enter Tryz.func31, Tryz.ntmps31
    go_wp2
    go_loopw [5] (fun i wr => ∃ j : Nat, j ≤ a.length ∧ i = .int .i64 j ∧ Hid (a.take j = b.take j) ∧ Same w wr) (fun i _ => a.length - (intOf i).toNat)
    case atStart => exact ⟨0, Nat.zero_le _, rfl, Lib.hid rfl, .refl _ _⟩
    case round =>
      obtain ⟨j, hj, rfl, Heq, hch⟩ := hrel
      by_cases hjt : j < a.length
      · have hjb : j < b.length := by rw [← hl'.out]; exact hjt
        obtain ⟨ba, oa, rfl, hra⟩ := (hr1.same hch).at_ (by simp [keyCells]; omega)
        obtain ⟨bb, ob, rfl, hrb⟩ := (hr2.same hch).at_ (by simp [keyCells]; omega)
        have x1 := hra j (.string (S a[j])) (by simp [keyCells, hjt])
        have x2 := hrb j (.string (S b[j])) (by simp [keyCells, hjb])
        have ta := List.take_append_getElem hjt
        have tb := List.take_append_getElem hjb
        have Ta := Lib.hid ta
        have Tb := Lib.hid tb
        clear ta tb hra hrb hr1 hr2
        have hse := strEq a[j] b[j]
        by_cases he : a[j] = b[j]
        · rw [decide_eq_true he] at hse
          have Heq2 : Hid (a.take (j + 1) = b.take (j + 1)) := Lib.hid (by rw [← Ta.out, ← Tb.out, Heq.out, he])
          clear he Ta Tb
          generalize S a[j] = s1 at *
          generalize S b[j] = s2 at *
          go_wp2
          go_big_quiet (fail)
          go_wp2
          exact ⟨⟨j + 1, by omega, rfl, Heq2, hch.drewN _⟩, by simp only [intOf]; omega⟩
        · rw [decide_eq_false he] at hse
          have hab : decide (a = b) = false := decide_eq_false (fun e => by subst e; exact he rfl)
          have Hab := Lib.hid hab
          clear he Ta Tb hab
          generalize S a[j] = s1 at *
          generalize S b[j] = s2 at *
          have hsn : (!(s1.toList == s2.toList)) = true := by rw [hse]; rfl
          go_wp2
          go_big_quiet (fail)
          go_wp2
          go_ret
          exact ⟨by rw [Hab.out]; rfl, hch.drewN _⟩
      · go_wp2
        go_ret
        have h1 := Heq.out
        have h2 := hl'.out
        rw [List.take_of_length_le (by omega), List.take_of_length_le (by omega)] at h1
        exact ⟨by rw [decide_eq_true h1]; rfl, hch⟩
  · have hab : decide (a = b) = false := decide_eq_false (fun e => hl (by rw [e]))
    have hne : ((a.length : Int) == (b.length : Int)) = false := by simp; omega
    have hne2 : (a.length == b.length) = false := by simpa using hl
    have Hab := Lib.hid hab
    clear hab
    go_enter Tryz.func31, Tryz.ntmps31
    go_wp2
    go_ret
    exact ⟨by rw [Hab.out]; rfl, .refl _ _⟩

/-- A map by keys, by value. -/
def MapV (w : World) (v : Value) (m : MpL) : Prop := ∃ v1 v2, v = .agg #[v1, v2] ∧ TextsAt w v1 (m.map (·.1)) ∧ TextsAt w v2 (m.map (·.2))
theorem MapV.same {w w' : World} {v : Value} {m : MpL} (h : MapV w v m) (k : Same w w') : MapV w' v m := by
  obtain ⟨v1, v2, hv, h1, h2⟩ := h
  exact ⟨v1, v2, hv, h1.same k, h2.same k⟩
theorem mp_eq {a b : MpL} : (a.map (·.1) = b.map (·.1) ∧ a.map (·.2) = b.map (·.2)) ↔ a = b := by
  constructor
  · rintro ⟨h1, h2⟩
    induction a generalizing b with
    | nil => cases b with
      | nil => rfl
      | cons => simp at h1
    | cons x a ih => cases b with
      | nil => simp at h1
      | cons y b =>
        simp only [List.map_cons, List.cons.injEq] at h1 h2
        rw [ih h1.2 h2.2, Prod.ext h1.1 h2.1]
  · rintro rfl; exact ⟨rfl, rfl⟩

set_option maxRecDepth 100000 in
set_option maxHeartbeats 1000000 in
/-- Are two maps one? -/
theorem sameMap_spec {w : World} {v1 v2 : Value} {a b : MpL} (h1 : MapV w v1 a) (h2 : MapV w v2 b) (ha : a.length ≤ 4294967296) (hb : b.length ≤ 4294967296) :
    Calls Tryz.prog 37 #[v1, v2] w fun e w' => e = .returned (.bool (decide (a = b))) ∧ Same w w' := by
  obtain ⟨_, _, rfl, ⟨A1, c1, rfl, r1⟩, ⟨A2, c2, rfl, r2⟩⟩ := h1
  obtain ⟨_, _, rfl, ⟨A3, c3, rfl, r3⟩, ⟨A4, c4, rfl, r4⟩⟩ := h2
  have hk := fun W (k : Same w W) => sameTexts_spec (w := W) (v1 := .slice A1 (a.map (·.1)).length c1) (v2 := .slice A3 (b.map (·.1)).length c3) ⟨A1, c1, rfl, r1.same k⟩ ⟨A3, c3, rfl, r3.same k⟩ (by simpa using ha) (by simpa using hb)
  have hbl := fun W (k : Same w W) => sameTexts_spec (w := W) (v1 := .slice A2 (a.map (·.2)).length c2) (v2 := .slice A4 (b.map (·.2)).length c4) ⟨A2, c2, rfl, r2.same k⟩ ⟨A4, c4, rfl, r4.same k⟩ (by simpa using ha) (by simpa using hb)
  have hd : decide (a = b) = (decide (a.map (·.1) = b.map (·.1)) && decide (a.map (·.2) = b.map (·.2))) := by
    rw [Bool.eq_iff_iff]
    simp only [Bool.and_eq_true, decide_eq_true_eq]
    exact mp_eq.symm
  simp only [List.length_map] at hk hbl ⊢
  have hq0 := Blk.new w 32 [.slice A1 a.length c1, .slice A2 a.length c2]
  have hq1 : Blk ((w.alloc (.cells #[.slice A1 a.length c1, .slice A2 a.length c2] 32)).alloc (.cells #[.slice A3 b.length c3, .slice A4 b.length c4] 32)) (w.heap.size + 1) 32 [.slice A3 b.length c3, .slice A4 b.length c4] := by
    have := Blk.new (w.alloc (.cells #[.slice A1 a.length c1, .slice A2 a.length c2] 32)) 32 [.slice A3 b.length c3, .slice A4 b.length c4]
    rwa [World.size_alloc] at this
  have hq0' : Blk ((w.alloc (.cells #[.slice A1 a.length c1, .slice A2 a.length c2] 32)).alloc (.cells #[.slice A3 b.length c3, .slice A4 b.length c4] 32)) w.heap.size 32 [.slice A1 a.length c1, .slice A2 a.length c2] := hq0.alloc _
  have hS : Same w ((w.alloc (.cells #[.slice A1 a.length c1, .slice A2 a.length c2] 32)).alloc (.cells #[.slice A3 b.length c3, .slice A4 b.length c4] 32)) := ((Chg.refl _ w).alloc _).alloc _
  have Hd := Lib.hid hd
  clear hd hq0
  generalize decide (a.map (·.1) = b.map (·.1)) = d1 at *
  generalize decide (a.map (·.2) = b.map (·.2)) = d2 at *
  cases d1
  · go_enter Tryz.func37, Tryz.ntmps37
    go_wp2_with (go_at_call 31; refine (hk _ hS).mono ?_; rintro e w1 ⟨rfl, k1⟩)
    go_ret
    exact ⟨by rw [Hd.out]; rfl, hS.trans k1⟩
  · go_enter Tryz.func37, Tryz.ntmps37
    go_wp2_with (first
      | (go_at_call 31; (with_reducible refine (hk _ hS).mono ?_); rintro e w1 ⟨rfl, k1⟩; have x0 := (hq0'.same k1).cell 1; have x1 := (hq1.same k1).cell 1; simp only [List.getElem?_cons_zero, List.getElem?_cons_succ] at x0 x1)
      | (go_at_call 31; refine (hbl _ (hS.trans k1)).mono ?_; rintro e w2 ⟨rfl, k2⟩))
    go_ret
    exact ⟨by rw [Hd.out]; rfl, (hS.trans k1).trans k2⟩
end Go.Proofs.Obj

/- L3 -/
namespace Go.Proofs.Obj
open Go Go.RowKit Go.Shelf

theorem needOf_snoc (m : MpL) (x : List UInt8 × List UInt8) : needOf (m ++ [x]) = needOf m + (2 + (x.1.length + x.2.length) / 32) := by simp [needOf]
theorem needOf_le : ∀ (m : MpL), (∀ x ∈ m, x.1.length ≤ 300 ∧ x.2.length ≤ 131072) → needOf m ≤ 4110 * m.length
  | [], _ => Nat.le_refl _
  | x :: m, h => by
    have h1 := needOf_le m (fun y hy => h y (by simp [hy]))
    have h2 := h x (by simp)
    have e : needOf (x :: m) = 2 + (x.1.length + x.2.length) / 32 + needOf m := by simp [needOf]
    rw [e, List.length_cons]
    omega

set_option maxRecDepth 100000 in
set_option maxHeartbeats 2000000 in
theorem need_spec {w : World} {v : Value} {m : MpL} (h : MapV w v m) (hl : m.length ≤ 40000) (hs : ∀ x ∈ m, x.1.length ≤ 300 ∧ x.2.length ≤ 131072) :
    Calls Tryz.prog 41 #[v] w fun e w' => e = .returned (.int .i64 (needOf m : Nat)) ∧ Same w w' := by
  obtain ⟨_, _, rfl, ⟨A1, c1, rfl, r1⟩, ⟨A2, c2, rfl, r2⟩⟩ := h
  simp only [List.length_map]
  have hb := Blk.new w 32 [.slice A1 m.length c1, .slice A2 m.length c2]
  have hS : Same w (w.alloc (.cells [.slice A1 m.length c1, .slice A2 m.length c2].toArray 32)) := (Chg.refl _ w).alloc _
  go_enter Tryz.func41, Tryz.ntmps41
  go_wp2
  go_loopw [3, 4] (fun n i wr => ∃ j : Nat, j ≤ m.length ∧ i = .int .i64 j ∧ n = .int .i64 (needOf (m.take j) : Nat) ∧ Blk wr w.heap.size 32 [.slice A1 m.length c1, .slice A2 m.length c2] ∧ Same w wr) (fun _ i _ => m.length - (intOf i).toNat)
  case atStart => exact ⟨0, Nat.zero_le _, rfl, rfl, hb, hS⟩
  case round =>
    obtain ⟨j, hj, rfl, rfl, hq, hch⟩ := hrel
    obtain ⟨q0, q1, _⟩ := hq.st2
    by_cases hjt : j < m.length
    · obtain ⟨ba, oa, rfl, hra⟩ := (r1.same hch).at_ (by simp [keyCells]; omega)
      obtain ⟨bb, ob, rfl, hrb⟩ := (r2.same hch).at_ (by simp [keyCells]; omega)
      have x1 := hra j (.string (S m[j].1)) (by simp [keyCells, hjt])
      have x2 := hrb j (.string (S m[j].2)) (by simp [keyCells, hjt])
      obtain ⟨z1, z2⟩ := hs _ (List.getElem_mem hjt)
      have s1 := S_size m[j].1
      have s2 := S_size m[j].2
      have hn := needOf_le (m.take j) (fun x hx => hs x (List.mem_of_mem_take hx))
      rw [List.length_take_of_le hj] at hn
      have hsn := needOf_snoc (m.take j) m[j]
      rw [List.take_append_getElem hjt] at hsn
      have Hsn := Lib.hid hsn
      clear hsn hra hrb r1 r2
      generalize hk1 : m[j].1.length = k1 at *
      generalize hk2 : m[j].2.length = k2 at *
      have Hk1 := Lib.hid hk1
      have Hk2 := Lib.hid hk2
      clear hk1 hk2
      generalize S m[j].1 = a1 at *
      generalize S m[j].2 = a2 at *
      generalize hnn : needOf (m.take j) = nn at *
      clear hnn
      have wz1 : IntKind.i64.wrap ((nn : Int) + 2) = (nn : Int) + 2 := by rw [IntKind.wrap_i64]; omega
      have wz2 : IntKind.i64.wrap ((k1 : Int) + (k2 : Int)) = (k1 : Int) + (k2 : Int) := by rw [IntKind.wrap_i64]; omega
      have wz3 : ((k1 : Int) + (k2 : Int)).tdiv 32 = (((k1 + k2) / 32 : Nat) : Int) := by rw [Int.tdiv_eq_ediv_of_nonneg (by omega)]; omega
      have wz4 : IntKind.i64.wrap ((((k1 + k2) / 32 : Nat) : Int)) = (((k1 + k2) / 32 : Nat) : Int) := by rw [IntKind.wrap_i64]; omega
      have wz5 : IntKind.i64.wrap ((nn : Int) + 2 + (((k1 + k2) / 32 : Nat) : Int)) = (nn : Int) + 2 + (((k1 + k2) / 32 : Nat) : Int) := by rw [IntKind.wrap_i64]; omega
      go_wp2
      go_big_quiet (fail)
      clear wz1 wz2 wz3 wz4 wz5
      go_wp2
      refine ⟨⟨j + 1, by omega, rfl, ?_, hq.chg ((Chg.refl (fun _ => False) wr).drewN _) (fun h => h), hch.drewN _⟩, by simp only [intOf]; omega⟩
      rw [Hsn.out]
      exact congrArg (Value.int .i64) (by omega)
    · go_wp2
      go_ret
      rw [List.take_of_length_le (by omega)]
      exact ⟨rfl, hch⟩

set_option maxRecDepth 100000 in
set_option maxHeartbeats 2000000 in
/-- May a store of a disk be told to be full? -/
theorem full_spec {w : World} {L : DL} {D : Dk} {v1 v2 : Value} {a b : MpL} (hD : DiskAt w L D) (h1 : MapV w v1 a) (h2 : MapV w v2 b) (ha : a.length ≤ 40000) (hb : b.length ≤ 40000)
    (hsa : ∀ x ∈ a, x.1.length ≤ 300 ∧ x.2.length ≤ 131072) (hsb : ∀ x ∈ b, x.1.length ≤ 300 ∧ x.2.length ≤ 131072) :
    Calls Tryz.prog 20 #[.pointer (some ⟨L.d, 0, none⟩), v1, v2] w fun e w' => e = .returned (.bool (decide (D.firm.length < 3 * (needOf a + needOf b) + 40))) ∧ Same w w' := by
  obtain ⟨_, _, rfl, ⟨A1, c1, rfl, r1⟩, ⟨A2, c2, rfl, r2⟩⟩ := h1
  obtain ⟨_, _, rfl, ⟨A3, c3, rfl, r3⟩, ⟨A4, c4, rfl, r4⟩⟩ := h2
  have hna := fun W (k : Same w W) => need_spec (w := W) (m := a) ⟨_, _, rfl, ⟨A1, c1, rfl, r1.same k⟩, ⟨A2, c2, rfl, r2.same k⟩⟩ ha hsa
  have hnb := fun W (k : Same w W) => need_spec (w := W) (m := b) ⟨_, _, rfl, ⟨A3, c3, rfl, r3.same k⟩, ⟨A4, c4, rfl, r4.same k⟩⟩ hb hsb
  have b1 := needOf_le a hsa
  have b2 := needOf_le b hsb
  have hlen := hD.len
  simp only [List.length_map] at hna hnb ⊢
  have hq0 := (Blk.new w 32 [.slice A1 a.length c1, .slice A2 a.length c2]).alloc (.cells #[.slice A3 b.length c3, .slice A4 b.length c4] 32)
  have hq1 : Blk ((w.alloc (.cells #[.slice A1 a.length c1, .slice A2 a.length c2] 32)).alloc (.cells #[.slice A3 b.length c3, .slice A4 b.length c4] 32)) (w.heap.size + 1) 32 [.slice A3 b.length c3, .slice A4 b.length c4] := by
    have := Blk.new (w.alloc (.cells #[.slice A1 a.length c1, .slice A2 a.length c2] 32)) 32 [.slice A3 b.length c3, .slice A4 b.length c4]
    rwa [World.size_alloc] at this
  have hS : Same w ((w.alloc (.cells #[.slice A1 a.length c1, .slice A2 a.length c2] 32)).alloc (.cells #[.slice A3 b.length c3, .slice A4 b.length c4] 32)) := ((Chg.refl _ w).alloc _).alloc _
  change Blk ((w.alloc (.cells #[.slice A1 a.length c1, .slice A2 a.length c2] 32)).alloc (.cells #[.slice A3 b.length c3, .slice A4 b.length c4] 32)) _ _ _ at hq0
  have hgoal : decide (D.firm.length < 3 * (needOf a + needOf b) + 40) = decide (((D.firm.length : Nat) : Int) < 3 * ((needOf a : Int) + (needOf b : Int)) + 40) := by
    rw [Bool.eq_iff_iff]; simp only [decide_eq_true_eq]; omega
  rw [hgoal]
  clear hgoal
  generalize needOf a = na at *
  generalize needOf b = nb at *
  go_enter Tryz.func20, Tryz.ntmps20
  go_wp2
  generalize (w.alloc (.cells #[.slice A1 a.length c1, .slice A2 a.length c2] 32)).alloc (.cells #[.slice A3 b.length c3, .slice A4 b.length c4] 32) = W at *
  obtain ⟨x0, x1, _⟩ := hq0.st2
  obtain ⟨y0, y1, _⟩ := hq1.st2
  have wz1 : IntKind.i64.wrap ((na : Int) + (nb : Int)) = (na : Int) + (nb : Int) := by rw [IntKind.wrap_i64]; omega
  have wz2 : IntKind.i64.wrap (3 * ((na : Int) + (nb : Int))) = 3 * ((na : Int) + (nb : Int)) := by rw [IntKind.wrap_i64]; omega
  have wz3 : IntKind.i64.wrap (3 * ((na : Int) + (nb : Int)) + 40) = 3 * ((na : Int) + (nb : Int)) + 40 := by rw [IntKind.wrap_i64]; omega
  have hDS := hD.same hS
  go_region_held3 (fun w' => w'.cell? ⟨w.heap.size, 0, none⟩ = some (.slice A1 a.length c1) ∧ w'.cell? ⟨w.heap.size, 1, none⟩ = some (.slice A2 a.length c2) ∧ w'.cell? ⟨w.heap.size + 1, 0, none⟩ = some (.slice A3 b.length c3) ∧ w'.cell? ⟨w.heap.size + 1, 1, none⟩ = some (.slice A4 b.length c4) ∧ Same W w')
    (first | exact ⟨x0, x1, y0, y1, (Chg.refl _ W).drew⟩ | exact ⟨cell_chg ks x0 (fun h => h), cell_chg ks x1 (fun h => h), cell_chg ks y0 (fun h => h), cell_chg ks y1 (fun h => h), ks⟩)
    (first
      | (go_at_call 42; refine (len_spec (hDS.same ks)).mono ?_; rintro e w3 ⟨rfl, rfl⟩)
      | (go_at_call 41; (with_reducible refine (hna _ (hS.trans (Chg.refl _ W).drew)).mono ?_); rintro e w1 ⟨rfl, k1⟩; have ks := (Chg.refl _ W).drew.trans k1)
      | (go_at_call 41; refine (hnb _ (hS.trans ks)).mono ?_; rintro e w2 ⟨rfl, k2⟩; have ks := ks.trans k2))
  clear wz1 wz2 wz3
  go_wp2
  go_ret
  exact ⟨rfl, hS.trans ks⟩

theorem mayGo_snoc (p : PutM) : ∀ (l : List PutM) (had : List (List UInt8)), mayGo had (l ++ [p]) = (mayGo had l && (decide (¬ (p.key.length = 0 ∨ 300 < p.key.length ∨ 131072 < p.blob.length)) && !(had ++ l.map (·.key)).contains p.key))
  | [], had => by
    have e : mayGo had [p] = if p.key.length = 0 ∨ 300 < p.key.length ∨ had.contains p.key = true ∨ 131072 < p.blob.length then false else true := by rw [mayGo, mayGo]
    rw [List.nil_append, e]
    split
    · rename_i h
      simp only [mayGo, List.map_nil, List.append_nil, Bool.true_and]
      rcases h with h | h | h | h
      · rw [decide_eq_false (by simp [h])]; rfl
      · rw [decide_eq_false (by simp [h])]; rfl
      · rw [h]; simp
      · rw [decide_eq_false (by simp [h])]; rfl
    · rename_i h
      simp only [not_or] at h
      simp only [mayGo, List.map_nil, List.append_nil, Bool.true_and]
      rw [decide_eq_true (by simp only [not_or]; exact ⟨h.1, h.2.1, h.2.2.2⟩)]
      simpa using h.2.2.1
  | q :: l, had => by
    rw [List.cons_append, mayGo, mayGo]
    split
    · rfl
    · rw [mayGo_snoc p l (q.key :: had)]
      congr 2
      simp only [List.map_cons]
      congr 1
      rw [Bool.eq_iff_iff]
      simp only [List.contains_eq_mem, decide_eq_true_eq, List.mem_append, List.mem_cons]
      constructor
      · rintro ((h | h) | h)
        · exact .inr (.inl h)
        · exact .inl h
        · exact .inr (.inr h)
      · rintro (h | h | h)
        · exact .inl (.inr h)
        · exact .inl (.inl h)
        · exact .inr h
theorem mayF_snoc (l : List PutM) (p : PutM) : mayF (l ++ [p]) = (mayF l && (decide (¬ (p.key.length = 0 ∨ 300 < p.key.length ∨ 131072 < p.blob.length)) && !(l.map (·.key)).contains p.key)) := mayGo_snoc p l []
theorem mayF_take (l : List PutM) : ∀ n, mayF l = true → mayF (l.take n) = true := by
  intro n h
  have h9 : ∀ (m : List PutM), mayF (l.take n ++ m) = true → mayF (l.take n) = true := by
    intro m
    induction hk : m.length generalizing m with
    | zero => intro h; rwa [List.eq_nil_of_length_eq_zero hk, List.append_nil] at h
    | succ k ih =>
      intro h
      have hne : m ≠ [] := fun e => by rw [e] at hk; simp at hk
      have hd := List.dropLast_concat_getLast hne
      rw [← hd, ← List.append_assoc, mayF_snoc, Bool.and_eq_true] at h
      exact ih m.dropLast (by simp [hk]) h.1
  exact h9 (l.drop n) (by rw [List.take_append_drop]; exact h)
end Go.Proofs.Obj

/- L4 -/
namespace Go.Proofs.Obj
open Go Go.RowKit Go.Shelf

theorem mayF_bad {l : List PutM} {n : Nat} (h : mayF (l.take n) = false) : mayF l = false := by
  cases hm : mayF l
  · rfl
  · rw [mayF_take l n hm] at h; cases h
theorem take_keys (l : List PutM) (j : Nat) (key : List UInt8) : ((l.take j).map (·.key)).contains key = false ↔ ∀ i p, i < j → l[i]? = some p → p.key ≠ key := by
  simp only [List.contains_eq_mem, decide_eq_false_iff_not, List.mem_map, not_exists, not_and]
  constructor
  · intro h i p hi hp e
    obtain ⟨hl, rfl⟩ := List.getElem?_eq_some_iff.1 hp
    exact h l[i] (by rw [List.mem_take_iff_getElem]; exact ⟨i, by omega, rfl⟩) e
  · intro h p hp e
    obtain ⟨i, hi, rfl⟩ := List.mem_take_iff_getElem.1 hp
    exact h i _ (by omega) (List.getElem?_eq_getElem _) e

set_option maxRecDepth 100000 in
set_option maxHeartbeats 4000000 in
theorem mayPuts_spec {w : World} {v : Value} {l : List PutM} (hv : PutsAt w v l) (hl : l.length ≤ 1000000) (hsz : ∀ p ∈ l, p.key.length ≤ 4294967296 ∧ p.blob.length ≤ 4294967296) :
    Calls Tryz.prog 35 #[v] w fun e w' => e = .returned (.bool (mayF l)) ∧ Same w w' := by
  obtain ⟨A, cap, rfl, hr⟩ := hv
  go_enter Tryz.func35, Tryz.ntmps35
  go_wp2
  go_loopw [3] (fun i wr => ∃ j : Nat, j ≤ l.length ∧ i = .int .i64 j ∧ Hid (mayF (l.take j) = true) ∧ Same w wr) (fun i _ => l.length - (intOf i).toNat)
  case atStart => exact ⟨0, Nat.zero_le _, rfl, Lib.hid rfl, .refl _ _⟩
  case round =>
    obtain ⟨j, hj, rfl, Hm, hch⟩ := hrel
    by_cases hjt : j < l.length
    · have hpc : 0 < (putsCells l).length := by
        have := (List.getElem?_eq_some_iff.1 (putsCells_at l j hjt).1).1
        omega
      obtain ⟨b, off, rfl, hrr⟩ := (hr.same hch).at_ hpc
      have c0 := hrr _ _ (putsCells_at l j hjt).1
      have c1 := hrr _ _ (putsCells_at l j hjt).2.1
      rw [← Nat.add_assoc] at c1
      obtain ⟨hk1, hk2⟩ := hsz _ (List.getElem_mem hjt)
      have hsn := mayF_snoc (l.take j) l[j]
      rw [List.take_append_getElem hjt, Hm.out, Bool.true_and] at hsn
      have hkc := take_keys l j l[j].key
      have s1 := S_size l[j].key
      have s2 := S_size l[j].blob
      have e0 := eqL l[j].key []
      have Hsn := Lib.hid hsn
      have Hkc := Lib.hid hkc
      clear hsn hkc hpc
      have hfalse : (l[j].key.length = 0 ∨ 300 < l[j].key.length ∨ 131072 < l[j].blob.length) → mayF l = false := fun h => mayF_bad (n := j + 1) (by rw [Hsn.out, decide_eq_false (by simp only [not_or]; exact fun h' => by rcases h with h | h | h <;> omega)]; rfl)
      have Hf := Lib.hid hfalse
      clear hfalse
      by_cases b0 : l[j].key.length = 0
      · have hmf := Hf.out (.inl b0)
        have he : l[j].key = [] := List.length_eq_zero_iff.1 b0
        rw [decide_eq_true he] at e0
        have Hmf := Lib.hid hmf
        clear hmf he
        go_wp2
        go_ret
        exact ⟨by rw [Hmf.out]; rfl, hch⟩
      · have he : ¬ l[j].key = [] := fun e => b0 (by rw [e]; rfl)
        rw [decide_eq_false he] at e0
        clear he
        by_cases b1 : 300 < l[j].key.length
        · have hmf := Hf.out (.inr (.inl b1))
          have Hmf := Lib.hid hmf
          clear hmf
          have b1' : (300 : Int) < (l[j].key.length : Int) := by omega
          go_wp2
          go_ret
          exact ⟨by rw [Hmf.out]; rfl, hch⟩
        · have b1' : ¬ (300 : Int) < (l[j].key.length : Int) := by omega
          by_cases b2 : 131072 < l[j].blob.length
          · have hmf := Hf.out (.inr (.inr b2))
            have Hmf := Lib.hid hmf
            clear hmf
            have b2' : (131072 : Int) < (l[j].blob.length : Int) := by omega
            go_wp2
            go_ret
            exact ⟨by rw [Hmf.out]; rfl, hch⟩
          · have b2' : ¬ (131072 : Int) < (l[j].blob.length : Int) := by omega
            have hsn2 := Hsn.out
            rw [decide_eq_true (by simp only [not_or]; exact ⟨b0, b1, b2⟩), Bool.true_and] at hsn2
            have Hsn2 := Lib.hid hsn2
            clear hsn2 Hsn Hf
            have hcell : ∀ i (hi : i < l.length), wr.cell? ⟨b, off + i * 3, none⟩ = some (.string (S l[i].key)) := fun i hi => hrr _ _ (putsCells_at l i hi).1
            have Hcell := Lib.hid hcell
            clear hcell hrr hr
            go_wp2
            generalize l[j].key = kj at *
            obtain ⟨wo, rfl⟩ : ∃ wo : World, wo = wr := ⟨_, rfl⟩
            go_loopw [4] (fun k wr2 => ∃ i : Nat, i ≤ j ∧ k = .int .i64 i ∧ Hid (∀ q p, q < i → l[q]? = some p → p.key ≠ kj) ∧ Same wo wr2) (fun k _ => j - (intOf k).toNat)
            case atStart => exact ⟨0, Nat.zero_le _, rfl, Lib.hid (fun q p h => by omega), .refl _ _⟩
            case round =>
              obtain ⟨i, hi, rfl, Hne, hch2⟩ := hrel
              have d0 := cell_chg hch2 c0 (fun h => h)
              by_cases hij : i < j
              · have d1 := cell_chg hch2 (Hcell.out i (by omega)) (fun h => h)
                have hse := strEq (l[i]'(by omega)).key kj
                by_cases he : (l[i]'(by omega)).key = kj
                · rw [decide_eq_true he] at hse
                  have hbad : mayF l = false := mayF_bad (n := j + 1) (by
                    rw [Hsn2.out]
                    have : ((l.take j).map (·.key)).contains kj = true := by
                      cases hc : ((l.take j).map (·.key)).contains kj
                      · exact absurd he (Hkc.out.1 hc i _ hij (List.getElem?_eq_getElem _))
                      · rfl
                    rw [this]; rfl)
                  have Hbad := Lib.hid hbad
                  clear he hbad
                  generalize S (l[i]'(by omega)).key = s3 at *
                  generalize S kj = s4 at *
                  go_wp2
                  go_big_quiet (fail)
                  go_wp2
                  go_ret
                  exact ⟨by rw [Hbad.out]; rfl, (hch.trans hch2).drewN _⟩
                · rw [decide_eq_false he] at hse
                  have hne2 : ∀ q p, q < i + 1 → l[q]? = some p → p.key ≠ kj := fun q p hq hp => by
                    by_cases e : q = i
                    · subst e
                      obtain ⟨h, rfl⟩ := List.getElem?_eq_some_iff.1 hp
                      exact he
                    · exact Hne.out q p (by omega) hp
                  have Hne2 := Lib.hid hne2
                  clear he hne2
                  generalize S (l[i]'(by omega)).key = s3 at *
                  generalize S kj = s4 at *
                  go_wp2
                  go_big_quiet (fail)
                  go_wp2
                  exact ⟨⟨i + 1, by omega, rfl, Hne2, hch2.drewN _⟩, by simp only [intOf]; omega⟩
              · obtain rfl : i = j := by omega
                have hok : mayF (l.take (i + 1)) = true := by
                  rw [Hsn2.out, (Hkc.out.2 Hne.out)]; rfl
                have Hok := Lib.hid hok
                clear hok
                go_wp2
                exact ⟨⟨i + 1, by omega, rfl, Hok, hch.trans hch2⟩, by simp only [intOf]; omega⟩
    · go_wp2
      go_ret
      have := Hm.out
      rw [List.take_of_length_le (by omega)] at this
      exact ⟨by rw [this]; rfl, hch⟩
end Go.Proofs.Obj
