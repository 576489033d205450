/- ObjectsWhere holds: a blob's bytes stand in its sectors; a turned one is turned in it, and in no other one. For every input; the card ties the two tables that the row lists. -/
import Derived.Test.YtiiinmleiigckaaGreatDoorGZB
import Derived.Test.YtiiinmleiigckaaGreatDoorGZC
import Derived.Test.YtiiinmleiigckaaGreatDoorCards
import Derived.Test.YtiiinmleiigckaaGreatDoorTie
import Derived.Deep.DeepHandedRow
import Derived.Lib.LaidTab
set_option linter.unusedVariables false
set_option linter.unusedSimpArgs false

namespace Go.Proofs.Obj
open Go Go.RowKit Go.Shelf

theorem Round.puts {w0 wr : World} {d q n j : Nat} {L : DL} {D : Dk} {s turn : Nat} {idx : List Nat} {tab : Tab} {m : MpL} {v1 v2 vi : Value} {ns : List UInt8} (hR : Round w0 d q n j wr L D s turn idx tab m v1 v2) (hbs : BytesAt wr vi ns) (hbl : ns.length ≤ 140737488355328) (W : World) (k : Same wr W) :
    Calls Tryz.prog 16 #[vi] W fun e w' => ∃ v' l, e = .returned v' ∧ PutsAt w' v' l ∧ RowFrom (Away w' L s) v' ∧ l.length ≤ 4 ∧ (∀ p ∈ l, p.key.length ≤ 300 ∧ p.blob.length ≤ 131072) ∧ Same W w' := by
  refine (puts_spec (hbs.same k) hbl).mono ?_
  rintro e w' ⟨v', l, h1, h2, h3, h4, h5, h6, h7⟩
  refine ⟨v', l, h1, h2, h3.mono (fun b hb => ⟨hb.2, fun e => ?_, fun e => ?_⟩), h4, fun p hp => (h6 p hp).1, h7⟩
  · have := hR.live.s_lt; have := k.size; omega
  · have := hR.live.disk.fp_lt e; have := k.size; omega

/-- A fuse in a disk in peace. -/
theorem DGood.setFuse {D : Dk} {turn : Nat} {idx : List Nat} {tab : Tab} {m : MpL} (h : DGood D turn idx tab m) (n : Int) : DGood (D.setFuse n) turn idx tab m :=
  ⟨h.up, h.loose, by show -1 ≤ max (-1) n; omega, h.good, h.small, h.blobs⟩
theorem StoreAt.chgD {w w' : World} {L : DL} {D : Dk} {s d : Nat} {turn : Int} {idx : List Nat} {tab : Tab} {down : Bool} (h : StoreAt w s d turn idx tab down) (hD : DiskAt w L D) (k : Chg L.fp w w') : StoreAt w' s d turn idx tab down := by
  refine h.chg k ?_ (fun b l hm e => hD.fp_map hm e rfl) (fun b c hb e => hD.ne_of hb (by decide) (by decide) (by decide) e)
  obtain ⟨_, _, _, hsb, _⟩ := h
  exact fun e => hD.ne_of hsb (by decide) (by decide) (by decide) e
theorem fuse_live {w : World} {L : DL} {s : Nat} {D : Dk} {turn : Nat} {idx : List Nat} {tab : Tab} {m : MpL} (h : LiveM w L s D turn idx tab m) (n : Nat) (hn : n ≤ 4294967296) :
    Calls Tryz.prog 28 #[.pointer (some ⟨L.d, 0, none⟩), .int .i64 n] w fun e w' => e = .returned (.tuple #[]) ∧ Chg L.fp w w' ∧ LiveM w' L s (D.setFuse n) turn idx tab m := by
  refine (fuse_spec h.disk (n : Int) (by omega) (by omega)).mono ?_
  rintro e w' ⟨rfl, k, hD⟩
  have k' : Chg L.fp w w' := k.mono (fun j _ e => .inl e)
  exact ⟨rfl, k', hD, h.dg.setFuse n, h.store.chgD h.disk k'⟩
/-- A disk that bears a map, in peace, is as good behind a crash. -/
theorem DGood.crash0 {D : Dk} {turn : Nat} {idx : List Nat} {tab : Tab} {m : MpL} (h : DGood D turn idx tab m) (keep : List Int) : DGood (D.crash keep) turn idx tab m ∧ (D.crash keep).firm.length = D.firm.length ∧ (D.crash keep).fuse = -1 :=
  h.crash (W := []) (fun x hx => by simp at hx) (.inl ⟨rfl, 0, by simp [h.loose]⟩) keep

/-- Of a store that is down nothing is told. -/
theorem keysDown {w : World} {s d : Nat} {turn : Int} {idx : List Nat} {tab : Tab} (h : StoreAt w s d turn idx tab true) :
    Calls Tryz.prog 23 #[.pointer (some ⟨s, 0, none⟩)] w fun e w' => e = .returned (.slice none 0 0) ∧ Same w w' := by
  obtain ⟨mb, iv, kv, hsb, _⟩ := h
  exact keys_down hsb
/-- A crash, what stays given by a row of the call's own. -/
theorem crash_own {w : World} {L : DL} {D : Dk} (hD : DiskAt w L D) (hl : D.loose.length ≤ 65536) {base n : Nat} {v : Value} {xs : List Int} (hrow : w.ownsRow base 3 1 v n (xs.map (.int .i64))) (hn : n = xs.length) (hm : n ≤ 1048576) (hb : ∀ k, L.fp k → k < base) :
    Calls Tryz.prog 29 #[.pointer (some ⟨L.d, 0, none⟩), v] w (DPost w L (D.crash xs) (.tuple #[])) := by
  obtain ⟨A, c, rfl, hA⟩ := own_from hrow
  subst hn
  have hr : Rd w A (Obj.ints xs) := by
    rcases hrow.2 with ⟨he, h0⟩ | ⟨g, cap, cur, he, _⟩
    · left; rw [List.eq_nil_of_length_eq_zero h0]; rfl
    · cases he; exact .inr ⟨g, 0, rfl, own_rd hrow⟩
  exact crash_spec hD hl hr (by omega) (fun a ha e => by have := (hA a ha).1; have := hb _ e; omega)

/-- What a law holds beside a store that is written. -/
structure Held (w0 : World) (q x : Nat) (W : World) (L : DL) (s : Nat) (vp u1 u2 y1 y2 : Value) (l : List PutM) (m n : MpL) : Prop where
  p : PutsAt W vp l
  pf : RowFrom (Away W L s) vp
  m : MapV W (.agg #[u1, u2]) m
  mf : AggFrom (Away W L s) (.agg #[u1, u2])
  n : MapV W (.agg #[y1, y2]) n
  nf : AggFrom (Away W L s) (.agg #[y1, y2])
  bq : Blk W q 32 [u1, u2]
  bx : Blk W x 32 [y1, y2]
  fp : ∀ k, L.fp k → w0.heap.size ≤ k
  hs : w0.heap.size ≤ s
  same : Same w0 W
section
variable {w0 W W' : World} {q x : Nat} {L L' : DL} {s : Nat} {vp u1 u2 y1 y2 : Value} {l : List PutM} {m n : MpL}
theorem Held.chg (h : Held w0 q x W L s vp u1 u2 y1 y2 l m n) (k : Chg (fun k => k = s ∨ L.fp k) W W') (hf : ∀ k, L'.fp k → L.fp k ∨ W.heap.size ≤ k) (hq : ¬ (q = s ∨ L.fp q)) (hx : ¬ (x = s ∨ L.fp x)) : Held w0 q x W' L' s vp u1 u2 y1 y2 l m n := by
  have hn : ∀ b, Away W L s b → ¬ (b = s ∨ L.fp b) := fun b hb e => e.elim hb.2.1 hb.2.2
  have hz := h.same.size
  refine ⟨h.p.chg h.pf k hn, h.pf.mono (Away.next k.size hf), h.m.chg h.mf k hn, h.mf.mono (Away.next k.size hf), h.n.chg h.nf k hn, h.nf.mono (Away.next k.size hf), h.bq.chg k hq, h.bx.chg k hx, fun j hj => (hf j hj).elim (h.fp j) (fun e => by omega), h.hs, ?_⟩
  exact h.same.trans' k (fun _ _ h => h) (fun j hj e => e.elim (fun e => by have := h.hs; omega) (fun e => by have := h.fp j e; omega))
theorem Held.then_same (h : Held w0 q x W L s vp u1 u2 y1 y2 l m n) (k : Same W W') : Held w0 q x W' L s vp u1 u2 y1 y2 l m n :=
  ⟨h.p.same k, h.pf.mono (Away.same k), h.m.same k, h.mf.mono (Away.same k), h.n.same k, h.nf.mono (Away.same k), h.bq.same k, h.bx.same k, h.fp, h.hs, h.same.trans k⟩
theorem Blk.awayOf {c : List Value} {d : Nat} {turn : Int} {idx : List Nat} {tab : Tab} {down : Bool} {D : Dk} (hb : Blk W q 32 c) (hD : DiskAt W L D) (hS : StoreAt W s d turn idx tab down) : ¬ (q = s ∨ L.fp q) := fun e => e.elim (fun e => by
  obtain ⟨_, _, _, hsb, _⟩ := hS
  exact Blk.type_ne hsb hb (by decide) e.symm) (hD.ne_of hb (by decide) (by decide) (by decide))
end
end Go.Proofs.Obj

/-
  A byte of a sector is turned: what a map has then. Plain words.
-/
namespace Go.Proofs.Obj
open Go Go.RowKit Go.Shelf

theorem secBytes_at {rd : Nat → ByteArray} : ∀ {l : List Nat}, (∀ a ∈ l, (rd a).size = 64) → ∀ (q : Nat) (h : q < l.length), ((secBytes rd l).drop (64 * q)).take 64 = (rd l[q]).data.toList
  | a :: l, hs, 0, _ => by
    have h64 : (rd a).data.toList.length = 64 := by have := hs a (by simp); simpa using this
    show (((rd a).data.toList ++ secBytes rd l).drop 0).take 64 = _
    rw [List.drop_zero, List.take_append_of_le_length (by omega), List.take_of_length_le (by omega)]; rfl
  | a :: l, hs, q + 1, h => by
    have h64 : (rd a).data.toList.length = 64 := by have := hs a (by simp); simpa using this
    have ih := secBytes_at (rd := rd) (l := l) (fun b hb => hs b (by simp [hb])) q (by simpa using h)
    show (((rd a).data.toList ++ secBytes rd l).drop (64 * (q + 1))).take 64 = _
    rw [List.drop_append, List.drop_of_length_le (by omega), List.nil_append, h64, show 64 * (q + 1) - 64 = 64 * q by omega, ih]; rfl
  | [], _, q, h => by simp at h
theorem secBytes_length {rd : Nat → ByteArray} : ∀ {l : List Nat}, (∀ a ∈ l, (rd a).size = 64) → (secBytes rd l).length = 64 * l.length
  | [], _ => rfl
  | a :: l, hs => by
    have h64 : (rd a).data.toList.length = 64 := by have := hs a (by simp); simpa using this
    have ih := secBytes_length (rd := rd) (l := l) (fun b hb => hs b (by simp [hb]))
    show ((rd a).data.toList ++ secBytes rd l).length = _
    rw [List.length_append, h64, ih, List.length_cons]; omega
/-- One sector's byte turned: one byte of them all. -/
theorem secBytes_flip {rd rd' : Nat → ByteArray} {r by_ : Nat} (hr : r < 64) : ∀ {l : List Nat}, l.Nodup → (∀ a ∈ l, (rd a).size = 64) → ∀ (q : Nat) (h : q < l.length), (∀ a ∈ l, a ≠ l[q] → rd' a = rd a) → rd' l[q] = flip (rd l[q]) r by_ →
    secBytes rd' l = (secBytes rd l).set (64 * q + r) (((secBytes rd l).getD (64 * q + r) 0) ^^^ UInt8.ofNat by_)
  | a :: l, hn, hs, 0, _, ho, hf => by
    have h64 : (rd a).data.toList.length = 64 := by have := hs a (by simp); simpa using this
    obtain ⟨hn1, hn2⟩ := List.nodup_cons.1 hn
    have ht : secBytes rd' l = secBytes rd l := by
      have hg : ∀ l' : List Nat, (∀ b ∈ l', rd' b = rd b) → secBytes rd' l' = secBytes rd l' := by
        intro l' h
        induction l' with
        | nil => rfl
        | cons b l' ih =>
          show (rd' b).data.toList ++ secBytes rd' l' = (rd b).data.toList ++ secBytes rd l'
          rw [h b (by simp), ih (fun c hc => h c (by simp [hc]))]
      exact hg l (fun b hb => ho b (by simp [hb]) (fun e => hn1 (by have e' : b = a := e; rwa [e'] at hb)))
    show (rd' a).data.toList ++ secBytes rd' l = ((rd a).data.toList ++ secBytes rd l).set _ (((rd a).data.toList ++ secBytes rd l).getD _ 0 ^^^ _)
    rw [ht, show rd' a = flip (rd a) r by_ from hf, Nat.mul_zero, Nat.zero_add, List.set_append_left _ _ (by omega)]
    congr 1
    show (((rd a).data.toList.set r _).toArray).toList = _
    simp [List.getD, List.getElem?_append_left (show r < (rd a).data.toList.length by omega)]
  | a :: l, hn, hs, q + 1, h, ho, hf => by
    have h64 : (rd a).data.toList.length = 64 := by have := hs a (by simp); simpa using this
    obtain ⟨hn1, hn2⟩ := List.nodup_cons.1 hn
    have hq : q < l.length := by simpa using h
    have ha : rd' a = rd a := ho a (by simp) (fun e => hn1 (by rw [e]; exact List.getElem_mem hq))
    have ih := secBytes_flip (rd := rd) (rd' := rd') (by_ := by_) hr hn2 (fun b hb => hs b (by simp [hb])) q hq (fun b hb hne => ho b (by simp [hb]) hne) hf
    show (rd' a).data.toList ++ secBytes rd' l = ((rd a).data.toList ++ secBytes rd l).set _ (((rd a).data.toList ++ secBytes rd l).getD _ 0 ^^^ _)
    rw [ha, ih, List.set_append_right _ _ (by omega), h64, show 64 * (q + 1) + r - 64 = 64 * q + r by omega]
    congr 3
    simp only [List.getD]
    rw [List.getElem?_append_right (by omega), h64, show 64 * (q + 1) + r - 64 = 64 * q + r by omega]
  | [], _, _, q, h, _, _ => by simp at h

/-- What Turn leaves, in plain words. -/
theorem DGood.turn {D : Dk} {tn : Nat} {idx : List Nat} {tab : Tab} {m : MpL} (h : DGood D tn idx tab m) {k : Nat} (hk : k < tab.length) {q r by_ : Nat} (hq : q < tab[k].2.secs.length) (hr : r < 64) (hp : 64 * q + r < tab[k].2.size) {D' : Dk}
    (hD : D' = ⟨D.firm.set tab[k].2.secs[q] (flip (D.firm.getD tab[k].2.secs[q] default) r by_), [], false, D.fuse⟩) (hkm : k < m.length) :
    DGood D' tn idx tab (m.set k (m[k].1, m[k].2.set (64 * q + r) (m[k].2.getD (64 * q + r) 0 ^^^ UInt8.ofNat by_))) ∧ D'.firm.length = D.firm.length := by
  have hn1 := h.good.n1
  have hmem : tab[k] ∈ tab := List.getElem_mem hk
  have hall : ∀ a ∈ tab[k].2.secs, a ∈ allSecs tab := fun a ha => mem_allSecs hmem ha
  have hrng := fun a (ha : a ∈ tab[k].2.secs) => h.good.rng a (List.mem_append_right _ (hall a ha))
  have hnd := List.nodup_append.1 h.good.nodup
  have ha0 := List.getElem_mem hq
  have hsec : ∀ a, a < D.firm.length → D.sector a = D.firm.getD a default := fun a _ => by rw [sector_firm h.loose]
  have hlen : D'.firm.length = D.firm.length := by rw [hD]; simp
  have hrd : ∀ a, a ≠ tab[k].2.secs[q] → D'.sector a = D.sector a := fun a ha => by
    rw [hD, sector_firm rfl, sector_firm h.loose]
    exact getD_of_getElem? (List.getElem?_set_ne (fun e => ha e.symm))
  have hrd0 : D'.sector tab[k].2.secs[q] = flip (D.sector tab[k].2.secs[q]) r by_ := by
    have := (hrng _ ha0).2
    rw [hD, sector_firm rfl, sector_firm h.loose]
    simp [List.getD, List.getElem?_set_self this]
  have h2 := hnd.2.1
  unfold allSecs at h2
  have h2' := List.pairwise_flatMap.1 h2
  have hother : ∀ j (hj : j < tab.length), j ≠ k → ∀ a ∈ tab[j].2.secs, a ≠ tab[k].2.secs[q] := by
    intro j hj hne a ha e
    subst e
    rcases Nat.lt_or_ge j k with hjk | hjk
    · exact (List.pairwise_iff_getElem.1 h2'.2 j k hj hk hjk) _ ha _ ha0 rfl
    · exact (List.pairwise_iff_getElem.1 h2'.2 k j hk hj (by omega)) _ ha0 _ ha rfl
  have hsz : ∀ a ∈ tab[k].2.secs, (D.sector a).size = 64 := fun a ha => h.good.size a (hrng a ha).2
  have hfl := secBytes_flip (rd := D.sector) (rd' := D'.sector) (by_ := by_) hr (h2'.1 _ hmem) hsz q hq (fun a _ hne => hrd a hne) hrd0
  have hsl := secBytes_length (rd := D.sector) hsz
  have hidx : ∀ a ∈ idx, a ≠ tab[k].2.secs[q] := fun a ha e => hnd.2.2 a ha _ (hall _ ha0) e
  have hgood : Good D'.sector D'.firm.length tn idx tab := by
    have hg := h.good
    rw [hlen]
    refine ⟨hg.n0, hg.n1, hg.chain.congr (fun a ha => hrd a (hidx a ha)), hg.ok, hg.rising, hg.nodup, hg.rng, ?_, hg.tlt, hg.none, fun a ha => ?_⟩
    · have hh := hg.heads
      have h0 : D'.sector 0 = D.sector 0 := hrd 0 (fun e => by have := (hrng _ ha0).1; omega)
      have h1 : D'.sector 1 = D.sector 1 := hrd 1 (fun e => by have := (hrng _ ha0).1; omega)
      unfold HeadsAt at *
      have e : ∀ k, D'.sector (k % 2) = D.sector (k % 2) := fun k => by
        rcases Nat.mod_two_eq_zero_or_one k with hm | hm <;> rw [hm] <;> assumption
      rw [h0, h1, e, e]
      exact hh
    · by_cases e : a = tab[k].2.secs[q]
      · rw [e, hrd0, flip_size]; exact hg.size _ (by rw [← e]; exact ha)
      · rw [hrd a e]; exact hg.size a ha
  have hb := h.blobs
  have hml : m.length = tab.length := by rw [← hb]; simp [gMap]
  have hmk : m[k] = (tab[k].1, blobOf D.sector tab[k].2) := by
    subst hb; simp [gMap]
  refine ⟨⟨by rw [hD], by rw [hD], by rw [hD]; exact h.fuse, hgood, h.small, ?_⟩, hlen⟩
  refine List.ext_getElem (by simp [gMap, hml]) (fun j h1 h2 => ?_)
  have hj : j < tab.length := by simpa [gMap] using h1
  by_cases e : j = k
  · subst e
    simp only [gMap, List.getElem_map, List.getElem_set_self, hmk]
    congr 1
    unfold blobOf at *
    rw [hfl, List.take_set]
    congr 2
    have hpl : 64 * q + r < (secBytes D.sector tab[j].2.secs).length := by rw [hsl]; omega
    simp [List.getD, List.getElem?_take_of_lt hp]
  · rw [List.getElem_set_ne (fun e' => e e'.symm)]
    have : m[j]'(by omega) = (tab[j].1, blobOf D.sector tab[j].2) := by subst hb; simp [gMap]
    rw [this]
    simp only [gMap, List.getElem_map]
    congr 1
    exact blobOf_congr (fun a ha => hrd a (hother j hj e a ha))
end Go.Proofs.Obj

/-
  Plain words on maps by rising keys: what a key has behind puts; the same puts twice; all keys gone.
-/
namespace Go.Proofs.Obj
open Go Go.RowKit Go.Shelf

theorem RisingK.tail {α : Type} {x : List UInt8 × α} {m : KL α} (h : RisingK (x :: m)) : RisingK m ∧ ∀ y ∈ m, bytesBefore x.1 y.1 = true := by
  unfold RisingK Rising at h ⊢
  rw [List.map_cons, List.pairwise_cons] at h
  exact ⟨h.2, fun y hy => h.1 _ (List.mem_map.2 ⟨y, hy, rfl⟩)⟩
theorem gGet_cons {α : Type} (k : List UInt8) (x : List UInt8 × α) (m : KL α) : gGet k (x :: m) = if x.1 = k then some x.2 else gGet k m := by
  unfold gGet
  rw [List.find?_cons]
  by_cases h : x.1 = k
  · simp [h]
  · have : (x.1 == k) = false := by simpa using h
    simp [this, h]
theorem gGet_none_of {α : Type} {k : List UInt8} : ∀ {m : KL α}, (∀ y ∈ m, y.1 ≠ k) → gGet k m = none
  | [], _ => rfl
  | x :: m, h => by rw [gGet_cons, if_neg (h x (by simp)), gGet_none_of (fun y hy => h y (by simp [hy]))]
/-- Two that rise and have the same at every key are one. -/
theorem rising_ext {α : Type} : ∀ {a b : KL α}, RisingK a → RisingK b → (∀ k, gGet k a = gGet k b) → a = b
  | [], [], _, _, _ => rfl
  | [], y :: b, _, _, h => by have := h y.1; rw [gGet_cons, if_pos rfl] at this; cases this
  | x :: a, [], _, _, h => by have := h x.1; rw [gGet_cons, if_pos rfl] at this; cases this
  | x :: a, y :: b, ha, hb, h => by
    obtain ⟨ha1, ha2⟩ := ha.tail
    obtain ⟨hb1, hb2⟩ := hb.tail
    have hxy : x.1 = y.1 := by
      cases h1 : bytesBefore x.1 y.1
      · by_cases he : x.1 = y.1
        · exact he
        · have h2 := bytesBefore_total h1 he
          have := h y.1
          rw [gGet_cons, gGet_cons, if_pos rfl, if_neg he, gGet_none_of (fun z hz e => by
            have h3 := bytesBefore_trans h2 (ha2 z hz)
            rw [e, bytesBefore_irrefl] at h3; cases h3)] at this
          cases this
      · have := h x.1
        have he : y.1 ≠ x.1 := fun e => by rw [e, bytesBefore_irrefl] at h1; cases h1
        rw [gGet_cons, gGet_cons, if_pos rfl, if_neg he, gGet_none_of (fun z hz e => by
          have h3 := bytesBefore_trans h1 (hb2 z hz)
          rw [e, bytesBefore_irrefl] at h3; cases h3)] at this
        cases this
    have hv : x.2 = y.2 := by
      have := h x.1
      rw [gGet_cons, gGet_cons, if_pos rfl, if_pos hxy.symm] at this
      exact Option.some.inj this
    have hxy2 : x = y := Prod.ext hxy hv
    subst hxy2
    rw [rising_ext ha1 hb1 (fun k => ?_)]
    by_cases he : x.1 = k
    · subst he
      rw [gGet_none_of (fun z hz e => by have h3 := ha2 z hz; rw [e, bytesBefore_irrefl] at h3; cases h3), gGet_none_of (fun z hz e => by have h3 := hb2 z hz; rw [e, bytesBefore_irrefl] at h3; cases h3)]
    · have := h k
      rwa [gGet_cons, gGet_cons, if_neg he, if_neg he] at this

theorem gGet_del {α : Type} (k q : List UInt8) : ∀ m : KL α, gGet k (gDel q m) = if q = k then none else gGet k m
  | [] => by simp [gDel, gGet]
  | x :: m => by
    have ih := gGet_del k q m
    unfold gDel at *
    rw [List.filter_cons]
    by_cases h : x.1 = q
    · rw [if_neg (by simp [h]), ih, gGet_cons]
      by_cases h2 : q = k
      · simp [h2]
      · rw [if_neg h2, if_neg h2, if_neg (by rw [h]; exact h2)]
    · rw [if_pos (by simpa using h), gGet_cons, ih, gGet_cons]
      by_cases h2 : x.1 = k
      · have : q ≠ k := fun e => h (h2.trans e.symm)
        simp [h2, this]
      · simp [h2]
theorem gGet_ins {α : Type} (k q : List UInt8) (v : α) : ∀ m : KL α, (∀ y ∈ m, y.1 ≠ q) → gGet k (gIns (q, v) m) = if q = k then some v else gGet k m
  | [], _ => by rw [gIns, gGet_cons]
  | x :: m, h => by
    rw [gIns]
    split
    · rw [gGet_cons]
    · have hx := h x (by simp)
      rw [gGet_cons, gGet_ins k q v m (fun y hy => h y (by simp [hy])), gGet_cons]
      by_cases h2 : x.1 = k
      · have : q ≠ k := fun e => hx (h2.trans e.symm)
        simp [h2, this]
      · simp [h2]
theorem gGet_put' {α : Type} (k q : List UInt8) (v : α) (m : KL α) : gGet k (gPut q v m) = if q = k then some v else gGet k m := by
  unfold gPut
  rw [gGet_ins k q v _ (fun y hy => (gDel_mem hy).2), gGet_del]
  by_cases h : q = k <;> simp [h]
theorem gGet_mpPut (k : List UInt8) (p : PutM) (m : MpL) : gGet k (mpPut m p) = if p.key = k then (if p.gone = true then none else some p.blob) else gGet k m := by
  unfold mpPut
  split
  · rename_i hg; rw [gGet_del]
  · rename_i hg; rw [gGet_put']
def lookF (k : List UInt8) (a : Option (List UInt8)) (p : PutM) : Option (List UInt8) := if p.key = k then (if p.gone = true then none else some p.blob) else a
theorem gGet_mpPuts (k : List UInt8) : ∀ (l : List PutM) (m : MpL), gGet k (mpPuts m l) = l.foldl (lookF k) (gGet k m)
  | [], _ => rfl
  | p :: l, m => by
    show gGet k (mpPuts (mpPut m p) l) = _
    rw [gGet_mpPuts k l, gGet_mpPut]; rfl
theorem look_away (k : List UInt8) : ∀ (l : List PutM) (a : Option (List UInt8)), (∀ p ∈ l, p.key ≠ k) → l.foldl (lookF k) a = a
  | [], _, _ => rfl
  | p :: l, a, h => by
    rw [List.foldl_cons, show lookF k a p = a from if_neg (h p (by simp)), look_away k l a (fun q hq => h q (by simp [hq]))]
theorem look_same (k : List UInt8) : ∀ (l : List PutM) (a b : Option (List UInt8)), (∃ p ∈ l, p.key = k) → l.foldl (lookF k) a = l.foldl (lookF k) b
  | [], _, _, h => by obtain ⟨p, hp, _⟩ := h; simp at hp
  | p :: l, a, b, h => by
    rw [List.foldl_cons, List.foldl_cons]
    by_cases hp : p.key = k
    · have e : ∀ x, lookF k x p = lookF k none p := fun x => by unfold lookF; rw [if_pos hp, if_pos hp]
      rw [e a, e b]
    · obtain ⟨q, hq, hk⟩ := h
      rcases List.mem_cons.1 hq with rfl | hq
      · exact absurd hk hp
      · exact look_same k l _ _ ⟨q, hq, hk⟩
/-- The same again changes nothing. -/
theorem mpPuts_twice {m : MpL} (h : RisingK m) (l : List PutM) : mpPuts (mpPuts m l) l = mpPuts m l := by
  refine rising_ext (mpPuts_rising l (mpPuts_rising l h)) (mpPuts_rising l h) (fun k => ?_)
  rw [gGet_mpPuts, gGet_mpPuts]
  by_cases hk : ∃ p ∈ l, p.key = k
  · exact look_same k l _ _ hk
  · rw [look_away k l _ (fun p hp e => hk ⟨p, hp, e⟩)]
/-- All that was put is gone. -/
def goneOf (l : List PutM) : List PutM := l.map fun p => ⟨p.key, [], true⟩
theorem look_gone (k : List UInt8) : ∀ (l : List PutM) (a : Option (List UInt8)), (∀ p ∈ l, p.gone = true) → (a = none ∨ ∃ p ∈ l, p.key = k) → l.foldl (lookF k) a = none
  | [], a, _, h => by
    rcases h with h | ⟨p, hp, _⟩
    · exact h
    · simp at hp
  | p :: l, a, hg, h => by
    rw [List.foldl_cons]
    refine look_gone k l _ (fun q hq => hg q (by simp [hq])) ?_
    by_cases hp : p.key = k
    · left; unfold lookF; rw [if_pos hp, if_pos (hg p (by simp))]
    · rcases h with rfl | ⟨q, hq, hk⟩
      · left; unfold lookF; rw [if_neg hp]
      · rcases List.mem_cons.1 hq with rfl | hq
        · exact absurd hk hp
        · exact .inr ⟨q, hq, hk⟩
theorem gone_all (l : List PutM) (k : List UInt8) : mpPuts (mpPuts [] l) (goneOf l ++ [⟨k, [], true⟩]) = [] := by
  refine rising_ext (mpPuts_rising _ (mpPuts_rising l (by simp [RisingK, Rising]))) (by simp [RisingK, Rising]) (fun q => ?_)
  rw [gGet_mpPuts, gGet_mpPuts]
  refine (look_gone q _ _ (fun p hp => ?_) ?_).trans rfl
  · rcases List.mem_append.1 hp with hp | hp
    · obtain ⟨p', _, rfl⟩ := List.mem_map.1 hp; rfl
    · rw [List.mem_singleton] at hp; subst hp; rfl
  · by_cases hk : ∃ p ∈ l, p.key = q
    · obtain ⟨p, hp, hk⟩ := hk
      exact .inr ⟨⟨p.key, [], true⟩, List.mem_append_left _ (List.mem_map.2 ⟨p, hp, rfl⟩), hk⟩
    · left
      rw [look_away q l _ (fun p hp e => hk ⟨p, hp, e⟩)]; rfl
theorem gone_snoc (l : List PutM) (p : PutM) : goneOf (l ++ [p]) = goneOf l ++ [⟨p.key, [], true⟩] := by simp [goneOf]
theorem gone_keys (l : List PutM) : (goneOf l).map (·.key) = l.map (·.key) := by simp [goneOf]
/-- Puts that may be may go. -/
theorem gone_may : ∀ (l : List PutM) (had : List (List UInt8)), mayGo had l = true → mayGo had (goneOf l) = true
  | [], _, _ => rfl
  | p :: l, had, h => by
    obtain ⟨h1, h2, h3, _, h5⟩ := mayGo_cons h
    show mayGo had (⟨p.key, [], true⟩ :: goneOf l) = true
    rw [mayGo, if_neg]
    · exact gone_may l _ h5
    · simp only [not_or]
      exact ⟨h1, by omega, by simpa using h3, by simp⟩
def kNever : List UInt8 := [110, 101, 118, 101, 114]
theorem gone_never {l : List PutM} (h : mayF l = true) (hk : ∀ p ∈ l, p.key ∈ keys5) : mayF (goneOf l ++ [⟨kNever, [], true⟩]) = true := by
  rw [mayF_snoc, show mayF (goneOf l) = true from gone_may l [] h, gone_keys, Bool.true_and]
  have : (l.map (·.key)).contains kNever = false := by
    simp only [List.contains_eq_mem, decide_eq_false_iff_not, List.mem_map, not_exists, not_and]
    intro p hp e
    have := hk p hp
    rw [e] at this
    revert this; decide
  rw [this]
  rfl
end Go.Proofs.Obj

namespace Go.Proofs.Obj
open Go Go.RowKit Go.Shelf

theorem mpPuts_keysIn {K : List UInt8 → Prop} : ∀ (l : List PutM) {m : MpL}, (∀ x ∈ m, K x.1) → (∀ p ∈ l, K p.key) → ∀ x ∈ mpPuts m l, K x.1
  | [], _, h, _ => h
  | p :: l, m, h, hl => mpPuts_keysIn l (m := mpPut m p) (fun x hx => by
      unfold mpPut at hx
      split at hx
      · exact h x (gDel_mem hx).1
      · rcases gPut_mem hx with rfl | ⟨hx, _⟩
        · exact hl p (by simp)
        · exact h x hx) (fun q hq => hl q (by simp [hq]))
theorem Round.puts5 {w0 wr : World} {d q n j : Nat} {L : DL} {D : Dk} {s turn : Nat} {idx : List Nat} {tab : Tab} {m : MpL} {v1 v2 vi : Value} {ns : List UInt8} (hR : Round w0 d q n j wr L D s turn idx tab m v1 v2) (hbs : BytesAt wr vi ns) (hbl : ns.length ≤ 140737488355328) (W : World) (k : Same wr W) :
    Calls Tryz.prog 16 #[vi] W fun e w' => ∃ v' l, e = .returned v' ∧ PutsAt w' v' l ∧ RowFrom (Away w' L s) v' ∧ l.length ≤ 4 ∧ (∀ p ∈ l, (p.key.length ≤ 300 ∧ p.blob.length ≤ 131072) ∧ p.key ∈ keys5) ∧ Same W w' := by
  refine (puts_spec (hbs.same k) hbl).mono ?_
  rintro e w' ⟨v', l, h1, h2, h3, h4, h5, h6, h7⟩
  refine ⟨v', l, h1, h2, h3.mono (fun b hb => ⟨hb.2, fun e => ?_, fun e => ?_⟩), h4, h6, h7⟩
  · have := hR.live.s_lt; have := k.size; omega
  · have := hR.live.disk.fp_lt e; have := k.size; omega
def kNone : List UInt8 := [110, 111, 110, 101]
theorem tab_none {tab : Tab} {m : MpL} (hk : m.map (·.1) = tab.map (·.1)) (h : ∀ x ∈ m, x.1 ∈ keys5) : tabGet kNone tab = none := by
  rw [tabGet_eq]
  refine gGet_none_of (fun y hy e => ?_)
  have : y.1 ∈ m.map (·.1) := by rw [hk]; exact List.mem_map.2 ⟨y, hy, rfl⟩
  obtain ⟨x, hx, hxe⟩ := List.mem_map.1 this
  have := h x hx
  rw [hxe, e] at this
  revert this; decide
theorem where_live {w : World} {L : DL} {s : Nat} {D : Dk} {turn : Nat} {idx : List Nat} {tab : Tab} {m : MpL} (h : LiveM w L s D turn idx tab m) {k : Nat} (hk : k < tab.length) :
    Calls Tryz.prog 24 #[.pointer (some ⟨s, 0, none⟩), .string (S tab[k].1)] w fun e w' => ∃ v', e = .returned (.tuple #[v', .int .i64 0]) ∧ Secs w' v' tab[k].2.secs ∧ Same w w' := by
  have hmem : tab[k] ∈ tab := List.getElem_mem hk
  have hok := h.dg.good.ok _ hmem
  have hf := find_spec h.store (S tab[k].1) (by rw [S_size]; simp only [maxLen]; have := hok.2.1; omega)
  have hg : tabGet tab[k].1 tab = some tab[k].2 := by
    rw [tabGet_eq]
    exact gGet_of h.dg.good.rising.nodup hmem
  unfold findF at hf
  rw [if_neg (by decide), show (S tab[k].1).data.toList = tab[k].1 from rfl, hg] at hf
  have hfew := h.dg.good.few
  have hsz := h.dg.small _ hmem
  exact where_spec (S tab[k].1) hf (by dsimp only; rw [hok.2.2.2.1]; omega)
theorem where_none {w : World} {L : DL} {s : Nat} {D : Dk} {turn : Nat} {idx : List Nat} {tab : Tab} {m : MpL} (h : LiveM w L s D turn idx tab m) (hn : ∀ x ∈ m, x.1 ∈ keys5) :
    Calls Tryz.prog 24 #[.pointer (some ⟨s, 0, none⟩), .string (S kNone)] w fun e w' => ∃ v', e = .returned (.tuple #[v', .int .i64 2]) ∧ Same w w' := by
  have hf := find_spec h.store (S kNone) (by decide)
  unfold findF at hf
  rw [if_neg (by decide), show (S kNone).data.toList = kNone from rfl, tab_none h.dg.keys hn] at hf
  refine (where_spec (S kNone) hf (by simp)).mono ?_
  rintro e w' ⟨v', rfl, _, k⟩
  exact ⟨v', rfl, k⟩
end Go.Proofs.Obj

namespace Go.Proofs.Obj
open Go Go.RowKit Go.Shelf

/-- What Where reads of a blob, in plain words. -/
theorem where_plain {D : Dk} {turn : Nat} {idx : List Nat} {tab : Tab} {m : MpL} (h : DGood D turn idx tab m) {k : Nat} (hk : k < tab.length) (hkm : k < m.length) :
    m[k].1 = tab[k].1 ∧ m[k].2.length = tab[k].2.size ∧ m[k].2.length ≤ 131072 ∧ tab[k].2.secs.length = (m[k].2.length + 63) / 64 ∧ D.firm.length ≤ 4096 ∧
    (∀ (i : Nat) (hi : i < tab[k].2.secs.length), 2 ≤ tab[k].2.secs[i] ∧ tab[k].2.secs[i] < D.firm.length ∧ ∃ s : ByteArray, D.read (tab[k].2.secs[i] : Int) = (s, 0) ∧ s.size = 64 ∧
      s.extract 0 (min m[k].2.length (64 * i + 64) - 64 * i) = S ((m[k].2.drop (64 * i)).take 64) ∧ (S m[k].2).extract (64 * i) (min m[k].2.length (64 * i + 64)) = S ((m[k].2.drop (64 * i)).take 64)) := by
  have hmem : tab[k] ∈ tab := List.getElem_mem hk
  have hok := h.good.ok _ hmem
  have hsm := h.small _ hmem
  have hb := h.blobs
  have hmk : m[k] = (tab[k].1, blobOf D.sector tab[k].2) := by
    subst hb; simp [gMap]
  have hrng := fun a (ha : a ∈ tab[k].2.secs) => h.good.rng a (List.mem_append_right _ (mem_allSecs hmem ha))
  have hbl : (blobOf D.sector tab[k].2).length = tab[k].2.size := blobOf_length h.good.size (fun a ha => (hrng a ha).2) hok.2.2.2.1
  have hsl := hok.2.2.2.1
  rw [hmk]
  dsimp only
  refine ⟨rfl, hbl, by omega, by omega, h.good.n1, fun i hi => ?_⟩
  have ha := hrng _ (List.getElem_mem hi)
  have hsz : ∀ a ∈ tab[k].2.secs, (D.sector a).size = 64 := fun a ha => h.good.size a (hrng a ha).2
  have hat := secBytes_at (rd := D.sector) hsz i hi
  have hlen := secBytes_length (rd := D.sector) hsz
  have hdrop : ((blobOf D.sector tab[k].2).drop (64 * i)).take 64 = (D.sector tab[k].2.secs[i]).data.toList.take (min tab[k].2.size (64 * i + 64) - 64 * i) := by
    unfold blobOf
    rw [← hat, List.take_take, List.drop_take, List.take_take]
    congr 1
    omega
  refine ⟨ha.1, ha.2, D.sector tab[k].2.secs[i], ?_, hsz _ (List.getElem_mem hi), ?_, ?_⟩
  · unfold Dk.read
    rw [if_neg (by rw [h.up]; decide), if_neg (by simp [hasB, ha.2])]
    rfl
  · rw [hdrop, hbl]
    apply ByteArray.ext
    apply Array.ext'
    simp [S]
  · rw [S_extract]
    congr 1
    rw [List.take_drop]
    by_cases hle : (blobOf D.sector tab[k].2).length ≤ 64 * i + 64
    · rw [Nat.min_eq_left hle, List.take_of_length_le (Nat.le_refl _), List.take_of_length_le (by omega)]
    · rw [Nat.min_eq_right (by omega)]
/-- What Turn leaves behind a Flush of a disk at rest. -/
theorem DGood.rest {D : Dk} {turn : Nat} {idx : List Nat} {tab : Tab} {m : MpL} (h : DGood D turn idx tab m) : D.flush = (D, 0) := by
  obtain ⟨firm, loose, down, fuse⟩ := D
  have h1 : down = false := h.up
  have h2 : loose = [] := h.loose
  subst h1 h2
  rfl
/-- append([]string{}, a row...). -/
theorem app_all {W : World} {A : Option Addr} {c : Nat} {l : List (List UInt8)} (hT : TextsAt W (.slice A l.length c) l) (hl : l.length ≤ 40000) (h0 : 0 < l.length) :
    ∃ g cap W', (Builtin.append_ #[30, 30] 30 #[.slice (some ⟨W.heap.size, 0, none⟩) 0 0, .slice A l.length c]).run Tryz.prog (W.alloc (.cells #[] 9)) = .ok (.slice (some ⟨g, 0, none⟩) l.length cap) W' ∧ W'.ownsRow W.heap.size 9 1 (.slice (some ⟨g, 0, none⟩) l.length cap) l.length (keyCells l) ∧ Same W W' := by
  obtain ⟨A', c', hv, hr⟩ := hT
  cases hv
  obtain ⟨b, off, rfl, hr2⟩ := hr.at_ (by simpa [keyCells] using h0)
  clear hr
  obtain ⟨i0, hi, hz0, hz1, hz2⟩ := info_parts Tryz.info9
  have hm : 0 + l.length ≤ maxLen := by simp only [maxLen]; omega
  have HO := World.ownsRow_lit (base := W.heap.size) (e := 9) (size := 1) W #[] 0 (Nat.le_refl _) (by simp [maxLen]) rfl
  have hr' := hr2.chg ((Chg.refl (fun _ => False) W).alloc (.cells #[] 9)) (fun h => h)
  obtain ⟨v1, w1, hrun, hown, hg, _, hat⟩ := run_append_own_at (P := Tryz.prog) _ W.heap.size 30 30 9 i0 (.string ⟨#[]⟩) 1 16 Tryz.underlying30 hi hz0 hz1 hz2 rfl (by decide) _ 0 [] HO ⟨b, off, none⟩ l.length c (keyCells l) (by simp [keyCells]) (fun j u hj => by
    have h := hr' j u hj
    by_cases hj0 : j = 0
    · subst hj0; simpa [Addr.add] using h
    · simpa [Addr.add, hj0] using h) (by
    intro u hu
    simp only [keyCells, List.mem_map] at hu
    obtain ⟨x, _, rfl⟩ := hu
    rfl) hm (by omega) (by simp)
  rw [Nat.zero_add] at hown
  obtain ⟨g, cap, rfl⟩ : ∃ g cap, v1 = .slice (some ⟨g, 0, none⟩) l.length cap := by
    rcases hown.2 with ⟨_, h⟩ | ⟨g, cap, _, h, _⟩
    · omega
    · exact ⟨g, cap, h⟩
  exact ⟨g, cap, w1, hrun, hown, ((Chg.refl (fun _ => False) W).alloc (.cells #[] 9)).trans' ((Chg.refl (fun k => k = W.heap.size) _).grown hg (fun k _ e => by simpa [Value.ownBlock] using e.symm)) (fun _ _ h => h) (fun j hj e => by omega)⟩
/-- The walk's step at an append whose run is known. -/
theorem wpList_app_run {P : Program} {w W' : World} {ops : Array Oper} {rest : List Oper} {o : Oper} {a : Act} {Q : Exit → Act → World → Prop} {v x1 x2 : Value} (hgd : o.guard = none) (s x : Operand) (t : TypeId)
    (ho : o.op = .call { callee := .builtin .append, args := #[s, x], argTypes := #[t, t] }) (hs : a.eval s = x1) (hx : a.eval x = x2)
    (hrun : (Builtin.append_ #[t, t] o.type #[x1, x2]).run P w = .ok v W') (h : wpList P ops Q rest (a.put o.dst v) W') : wpList P ops Q (o :: rest) a w :=
  wpList_plain hgd fun _ hK => by
    unfold Oper.wp
    simp [execOp, ho, resolve, invoke, builtin, hs, hx, hrun, Result.andThen]
    exact hK _ _ h
end Go.Proofs.Obj

namespace Go.Proofs.Obj
open Go Go.RowKit Go.Shelf

set_option maxRecDepth 100000 in
set_option maxHeartbeats 4000000 in
theorem where_walk {w : World} {v0 : Value} {ls : List (List UInt8)} {which by_ at_ : Nat} (hls : ByteRows w v0 ls) (hll : ls.length ≤ 140737488355328) (hwz : which < 256) (hbz : by_ < 256) (haz : at_ < 65536) :
    Calls Tryz.prog 7 #[v0, .int .u8 which, .int .u8 by_, .int .u16 at_] w fun e w' => e = .returned (.bool true) ∧ Same w w' := by
  obtain ⟨A, cap, rfl, hrow⟩ := hls
  have hgo : ((6 : Int) < (ls.length : Int)) ∨ ls.length ≤ 6 := by omega
  have Hrow := Lib.hid hrow
  clear hrow
  go_enter Tryz.func7, Tryz.ntmps7
  go_wp2_with fail
  refine (new_live 800 (by decide) (by decide)).mono ?_
  rintro e w1 ⟨L, rfl, k1, hfp, hD⟩
  rcases hgo with hgo | hgo
  · go_wp2_with (first
      | (go_at_call 14; refine (err_spec _ _).mono ?_; rintro e w9 ⟨rfl, rfl⟩)
      | (go_at_call 12; refine (awake_spec _).mono ?_; rintro e w2 ⟨rfl, k2⟩))
    go_ret
    exact ⟨rfl, k1.trans k2⟩
  · have hgo' : ¬ ((6 : Int) < (ls.length : Int)) := by omega
    have hop := open_live hD (new_good (n := 800) (by omega) (by omega))
    go_wp2_with (first
      | (go_at_call 13; refine hop.mono ?_; rintro e w2 ⟨s, rfl, hL, hs, k2⟩)
      | (go_at_call 14; refine (err_spec _ _).mono ?_; rintro e w3 ⟨rfl, rfl⟩))
    have k02 := k1.trans k2
    have kq : Same w2 (w2.alloc (.cells #[.slice none 0 0, .slice none 0 0] 32)) := (Chg.refl _ w2).alloc _
    have hR : Round w L.d w2.heap.size 800 0 (w2.alloc (.cells #[.slice none 0 0, .slice none 0 0] 32)) L ⟨List.replicate 800 zero64, [], false, -1⟩ s 0 [] [] [] (.slice none 0 0) (.slice none 0 0) :=
      ⟨rfl, hL.same kq, rfl, by simp, Nat.le_refl _, Blk.new w2 32 _, ⟨_, _, rfl, ⟨none, 0, rfl, .inl rfl⟩, ⟨none, 0, rfl, .inl rfl⟩⟩, ⟨none, 0, 0, none, 0, 0, rfl, fun _ e => (by cases e), fun _ e => (by cases e)⟩, Nat.le_trans k1.size hs, hfp, k02.trans kq⟩
    have hq : w.heap.size ≤ w2.heap.size := k02.size
    generalize w2.alloc (.cells #[.slice none 0 0, .slice none 0 0] 32) = w3 at *
    generalize w2.heap.size = q at *
    obtain ⟨d, hd⟩ : ∃ d, L.d = d := ⟨_, rfl⟩
    rw [hd] at hR
    rw [hd]
    clear hD hfp k1 hL hs k2 kq hop k02
    go_loopw [14] (fun i wr => ∃ (j : Nat) (L : DL) (D : Dk) (turn : Nat) (idx : List Nat) (tab : Tab) (m : MpL) (v1 v2 : Value), j ≤ ls.length ∧ i = .int .i64 j ∧ Hid (∀ x ∈ m, x.1 ∈ keys5) ∧ Hid (Round w d q 800 j wr L D s turn idx tab m v1 v2)) (fun i _ => ls.length - (intOf i).toNat)
    case atStart => exact ⟨0, L, _, 0, _, _, _, _, _, Nat.zero_le _, rfl, Lib.hid (by simp), Lib.hid hR⟩
    case round =>
      obtain ⟨j, L, D, turn, idx, tab, m, v1, v2, hj, rfl, HK, HR⟩ := hrel
      by_cases hjt : j < ls.length
      · have hR := HR.out
        obtain ⟨A1, c1, A2, c2, he⟩ := hR.map.form
        cases he
        obtain ⟨y0, y1, _⟩ := hR.blk.st2
        obtain ⟨b, off, vi, rfl, c0, hbs, hbl⟩ := Hrow.out j hjt
        have hbw : b < w.heap.size := World.block_lt_of_cell? w _ c0
        have c0 := cell_chg hR.same c0 (fun h => h)
        have hbs := hbs.same hR.same
        have hbT := hR.oldT b hbw
        have hqT := hR.qT
        have hN := hR.newT
        have hqw := hR.blk.lt
        have hbw2 : b < wr.heap.size := World.block_lt_of_cell? wr _ c0
        have hd := hR.hd
        subst hd
        have hputs := hR.puts5 hbs hbl
        have hstep := fun W (k : Same wr W) vp l (hp : PutsAt W vp l) (hpf : RowFrom (Away W L s) vp) (hl : l.length ≤ 4) (hz : ∀ p ∈ l, (p.key.length ≤ 300 ∧ p.blob.length ≤ 131072) ∧ p.key ∈ keys5) => step_spec (hR.live.same k) hR.fuse (hR.map.same k) (hR.from'.mono (Away.same k)) hp (.inr hpf) (by omega) (fun p hp => by have := (hz p hp).1; omega) (by have := hR.turn; omega)
        go_wp2
        refine wp_region_noPanic ?_
        refine regionL (fun w' => w'.cell? ⟨q, 0, none⟩ = some (.slice A1 m.length c1) ∧ w'.cell? ⟨q, 1, none⟩ = some (.slice A2 m.length c2) ∧ w'.cell? ⟨b, off + j, none⟩ = some vi) (fun w' => True) 13 (by kernel_rfl) (⟨y0, y1, c0⟩) (trivial) (fun hSK => ?_)
        refine takeK0 (i := 0) (v := ?v14) rfl (by kernel_rfl) (by kernel_rfl) (by kernel_rfl) rfl (fun _ _ _ h => h) (Or.inl ⟨by rfl, ?h14⟩) hSK (fun hSK => ?_)
        case h14 => intro w hSw; obtain ⟨hd0, hd1⟩ := hSw; first | (go_simp; done) | (go_simp; with_reducible rfl)
        try simp only [Act.put, List.setIfInBounds_toArray, List.set_cons_zero, List.set_cons_succ]
        refine takeK0 (i := 1) (v := ?v15) rfl (by kernel_rfl) (by kernel_rfl) (by kernel_rfl) rfl (fun _ _ _ h => h) (Or.inl ⟨by rfl, ?h15⟩) hSK (fun hSK => ?_)
        case h15 => intro w hSw; obtain ⟨hd0, hd1⟩ := hSw; first | (go_simp; done) | (go_simp; with_reducible rfl)
        try simp only [Act.put, List.setIfInBounds_toArray, List.set_cons_zero, List.set_cons_succ]
        refine takeK0 (i := 2) (v := ?v16) rfl (by kernel_rfl) (by kernel_rfl) (by kernel_rfl) rfl (fun _ _ _ h => h) (Or.inl ⟨by rfl, ?h16⟩) hSK (fun hSK => ?_)
        case h16 => intro w hSw; obtain ⟨hd0, hd1, hd2⟩ := hSw; first | (go_simp; done) | (go_simp; with_reducible rfl)
        try simp only [Act.put, List.setIfInBounds_toArray, List.set_cons_zero, List.set_cons_succ]
        refine takeK0 (i := 3) (v := ?v17) rfl (by kernel_rfl) (by kernel_rfl) (by kernel_rfl) rfl (fun _ _ _ h => h) (Or.inl ⟨by rfl, ?h17⟩) hSK (fun hSK => ?_)
        case h17 => intro w hSw; obtain ⟨hd0, hd1⟩ := hSw; first | (go_simp; done) | (go_simp; with_reducible rfl)
        try simp only [Act.put, List.setIfInBounds_toArray, List.set_cons_zero, List.set_cons_succ]
        refine takeK0 (i := 4) (v := ?v18) rfl (by kernel_rfl) (by kernel_rfl) (by kernel_rfl) rfl (fun _ _ _ h => h) (Or.inl ⟨by rfl, ?h18⟩) hSK (fun hSK => ?_)
        case h18 => intro w hSw; obtain ⟨hd0, hd1⟩ := hSw; first | (go_simp; done) | (go_simp; with_reducible rfl)
        try simp only [Act.put, List.setIfInBounds_toArray, List.set_cons_zero, List.set_cons_succ]
        refine takeK0 (i := 5) (v := ?v19) rfl (by kernel_rfl) (by kernel_rfl) (by kernel_rfl) rfl (fun _ _ _ h => h) (Or.inl ⟨by rfl, ?h19⟩) hSK (fun hSK => ?_)
        case h19 => intro w hSw; obtain ⟨hd0, hd1⟩ := hSw; first | (go_simp; done) | (go_simp; with_reducible rfl)
        try simp only [Act.put, List.setIfInBounds_toArray, List.set_cons_zero, List.set_cons_succ]
        refine takeK0 (i := 6) (v := ?v20) rfl (by kernel_rfl) (by kernel_rfl) (by kernel_rfl) rfl (fun _ _ _ h => h) (Or.inl ⟨by rfl, ?h20⟩) hSK (fun hSK => ?_)
        case h20 => intro w hSw; obtain ⟨hd0, hd1, hd2⟩ := hSw; first | (go_simp; done) | (go_simp; with_reducible rfl)
        try simp only [Act.put, List.setIfInBounds_toArray, List.set_cons_zero, List.set_cons_succ]
        refine readyL2 (i := 7) (j := 12) (by kernel_rfl) rfl rfl (fun K hK => ?a21) (fun K hK => ?b21)
        case' a21 =>
          rw [if_pos (by rfl)]
          go_simp
          refine (hputs _ ((Chg.refl _ wr).drew)).mono ?_
          rintro e w4 ⟨vp, l, rfl, hpl, hpf, hl4, hsm, k4⟩
          have kw4 : Same wr w4 := (Chg.refl _ wr).drew.trans k4
          refine hK.out _ _ (SK.both ⟨cell_chg (S := fun k => k = s ∨ L.fp k) (Chg.of_same kw4) y0 hqT, cell_chg (S := fun k => k = s ∨ L.fp k) (Chg.of_same kw4) y1 hqT, cell_chg (S := fun k => k = s ∨ L.fp k) (Chg.of_same kw4) c0 hbT⟩ trivial _) (fun hSK => ?_)
          clear hK K
          try simp only [Act.put, List.setIfInBounds_toArray, List.set_cons_zero, List.set_cons_succ]
          refine readyL2 (i := 8) (j := 12) (by kernel_rfl) rfl rfl (fun K hK => ?a9) (fun K hK => ?b9)
          case' a9 =>
            rw [if_pos (by rfl)]
            go_simp
            refine (hstep _ (kw4) vp l (hpl) (hpf) hl4 hsm).mono ?_
            rintro e w5 ⟨v', L', D', turn', idx', tab', m', rfl, hL', hfu', hlen', hm', hf', hd', _, hfp', kst, htu', hmr⟩
            obtain ⟨B1, d1, B2, d2, rfl⟩ := hm'.form
            dsimp only
            have ks : Chg (fun k => k = s ∨ L.fp k) wr w5 := (Chg.of_same kw4).trans kst
            refine hK.out _ _ (SK.both ⟨cell_chg (S := fun k => k = s ∨ L.fp k) ks y0 hqT, cell_chg (S := fun k => k = s ∨ L.fp k) ks y1 hqT, cell_chg (S := fun k => k = s ∨ L.fp k) ks c0 hbT⟩ trivial _) (fun hSK => ?_)
            clear hK K
            try simp only [Act.put, List.setIfInBounds_toArray, List.set_cons_zero, List.set_cons_succ]
            refine takeK0 (i := 9) (v := ?v1) rfl (by kernel_rfl) (by kernel_rfl) (by kernel_rfl) rfl (fun _ _ _ h => h) (Or.inl ⟨by rfl, ?h1⟩) hSK (fun hSK => ?_)
            case h1 => intro w hSw; obtain ⟨hd0, hd1⟩ := hSw; first | (go_simp; done) | (go_simp; with_reducible rfl)
            try simp only [Act.put, List.setIfInBounds_toArray, List.set_cons_zero, List.set_cons_succ]
            refine takeK0 (i := 10) (v := ?v2) rfl (by kernel_rfl) (by kernel_rfl) (by kernel_rfl) rfl (fun _ _ _ h => h) (Or.inl ⟨by rfl, ?h2⟩) hSK (fun hSK => ?_)
            case h2 => intro w hSw; obtain ⟨hd0, hd1⟩ := hSw; first | (go_simp; done) | (go_simp; with_reducible rfl)
            try simp only [Act.put, List.setIfInBounds_toArray, List.set_cons_zero, List.set_cons_succ]
            refine takeK0 (i := 11) (v := ?v3) rfl (by kernel_rfl) (by kernel_rfl) (by kernel_rfl) rfl (fun _ _ _ h => h) (Or.inl ⟨by rfl, ?h3⟩) hSK (fun hSK => ?_)
            case h3 => intro w hSw; obtain ⟨hd0, hd1⟩ := hSw; first | (go_simp; done) | (go_simp; with_reducible rfl)
            try simp only [Act.put, List.setIfInBounds_toArray, List.set_cons_zero, List.set_cons_succ]
            refine readyL (i := 12) (by kernel_rfl) rfl (fun K hK => ?_)
            rw [if_pos (by rfl)]
            go_simp
            refine hK.out _ _ (SK.both ⟨cell_chg (S := fun k => k = s ∨ L.fp k) (ks.alloc _) y0 hqT, cell_chg (S := fun k => k = s ∨ L.fp k) (ks.alloc _) y1 hqT, cell_chg (S := fun k => k = s ∨ L.fp k) (ks.alloc _) c0 hbT⟩ trivial _) (fun hSK => ?_)
            clear hK K
            try simp only [Act.put, List.setIfInBounds_toArray, List.set_cons_zero, List.set_cons_succ]
            refine readyL (i := 13) (by kernel_rfl) rfl (fun K hK => ?_)
            rw [if_pos (by rfl)]
            go_simp
            refine hK.out _ _ (SK.both ⟨cell_chg (S := fun k => k = s ∨ L.fp k) (ks.alloc _) y0 hqT, cell_chg (S := fun k => k = s ∨ L.fp k) (ks.alloc _) y1 hqT, cell_chg (S := fun k => k = s ∨ L.fp k) (ks.alloc _) c0 hbT⟩ trivial _) (fun hSK => ?_)
            clear hK K
            try simp only [Act.put, List.setIfInBounds_toArray, List.set_cons_zero, List.set_cons_succ]
            refine takeK0 (i := 14) (v := ?v4) rfl (by kernel_rfl) (by kernel_rfl) (by kernel_rfl) rfl (fun _ _ _ h => h) (Or.inl ⟨by rfl, ?h4⟩) hSK (fun hSK => ?_)
            case h4 => intro w hSw; obtain ⟨hd0, hd1⟩ := hSw; first | (go_simp; done) | (go_simp; with_reducible rfl)
            try simp only [Act.put, List.setIfInBounds_toArray, List.set_cons_zero, List.set_cons_succ]
            refine doneL (by kernel_rfl) ?_ _
            refine NoPanic.normal ?_
            have hA := after_alloc hR hL' hm' hf' ks
            obtain ⟨x, hx⟩ : ∃ x, x = w5.heap.size := ⟨_, rfl⟩
            rw [← hx] at hA ⊢
            generalize w5.alloc (.cells #[.slice B1 m'.length d1, .slice B2 m'.length d2] 32) = W at *
            clear hx
          case' b9 =>
            rw [if_pos (by rfl)]
            go_simp
            refine hK.out _ _ (SK.both ⟨cell_chg (S := fun k => k = s ∨ L.fp k) (Chg.of_same (kw4.alloc _)) y0 hqT, cell_chg (S := fun k => k = s ∨ L.fp k) (Chg.of_same (kw4.alloc _)) y1 hqT, cell_chg (S := fun k => k = s ∨ L.fp k) (Chg.of_same (kw4.alloc _)) c0 hbT⟩ trivial _) (fun hSK => ?_)
            clear hK K
            try simp only [Act.put, List.setIfInBounds_toArray, List.set_cons_zero, List.set_cons_succ]
            refine readyL (i := 8) (by kernel_rfl) rfl (fun K hK => ?_)
            rw [if_pos (by rfl)]
            go_simp
            refine (hstep _ (kw4.alloc _) vp l (hpl.same ((Chg.refl _ w4).alloc _)) (hpf.mono (Away.same ((Chg.refl _ w4).alloc _))) hl4 hsm).mono ?_
            rintro e w5 ⟨v', L', D', turn', idx', tab', m', rfl, hL', hfu', hlen', hm', hf', hd', _, hfp', kst, htu', hmr⟩
            obtain ⟨B1, d1, B2, d2, rfl⟩ := hm'.form
            dsimp only
            have ks : Chg (fun k => k = s ∨ L.fp k) wr w5 := (Chg.of_same (kw4.alloc _)).trans kst
            have hz2 : Blk w5 w4.heap.size 32 [.slice none 0 0, .slice none 0 0] := (Blk.new w4 32 [.slice none 0 0, .slice none 0 0]).chg kst (hN _ kw4.size)
            obtain ⟨z0, z1, z2, z3, z4, z5⟩ := hz2.st2
            have hwz := kw4.size
            refine hK.out _ _ (SK.both ⟨cell_chg (S := fun k => k = s ∨ L.fp k) ks y0 hqT, cell_chg (S := fun k => k = s ∨ L.fp k) ks y1 hqT, cell_chg (S := fun k => k = s ∨ L.fp k) ks c0 hbT⟩ trivial _) (fun hSK => ?_)
            clear hK K
            try simp only [Act.put, List.setIfInBounds_toArray, List.set_cons_zero, List.set_cons_succ]
            refine takeK0 (i := 9) (v := ?v5) rfl (by kernel_rfl) (by kernel_rfl) (by kernel_rfl) rfl (fun _ _ _ h => h) (Or.inl ⟨by rfl, ?h5⟩) hSK (fun hSK => ?_)
            case h5 => intro w hSw; obtain ⟨hd0, hd1⟩ := hSw; first | (go_simp; done) | (go_simp; with_reducible rfl)
            try simp only [Act.put, List.setIfInBounds_toArray, List.set_cons_zero, List.set_cons_succ]
            refine takeK0 (i := 10) (v := ?v6) rfl (by kernel_rfl) (by kernel_rfl) (by kernel_rfl) rfl (fun _ _ _ h => h) (Or.inl ⟨by rfl, ?h6⟩) hSK (fun hSK => ?_)
            case h6 => intro w hSw; obtain ⟨hd0, hd1⟩ := hSw; first | (go_simp; done) | (go_simp; with_reducible rfl)
            try simp only [Act.put, List.setIfInBounds_toArray, List.set_cons_zero, List.set_cons_succ]
            refine takeK0 (i := 11) (v := ?v7) rfl (by kernel_rfl) (by kernel_rfl) (by kernel_rfl) rfl (fun _ _ _ h => h) (Or.inl ⟨by rfl, ?h7⟩) hSK (fun hSK => ?_)
            case h7 => intro w hSw; obtain ⟨hd0, hd1⟩ := hSw; first | (go_simp; done) | (go_simp; with_reducible rfl)
            try simp only [Act.put, List.setIfInBounds_toArray, List.set_cons_zero, List.set_cons_succ]
            refine readyL (i := 13) (by kernel_rfl) rfl (fun K hK => ?_)
            rw [if_pos (by rfl)]
            go_simp
            refine hK.out _ _ (SK.both ⟨cell_chg (Chg.put2 w5 w4.heap.size _ _) (cell_chg (S := fun k => k = s ∨ L.fp k) ks y0 hqT) (show q ≠ w4.heap.size from by omega), cell_chg (Chg.put2 w5 w4.heap.size _ _) (cell_chg (S := fun k => k = s ∨ L.fp k) ks y1 hqT) (show q ≠ w4.heap.size from by omega), cell_chg (Chg.put2 w5 w4.heap.size _ _) (cell_chg (S := fun k => k = s ∨ L.fp k) ks c0 hbT) (show b ≠ w4.heap.size from by omega)⟩ trivial _) (fun hSK => ?_)
            clear hK K
            try simp only [Act.put, List.setIfInBounds_toArray, List.set_cons_zero, List.set_cons_succ]
            refine takeK0 (i := 14) (v := ?v8) rfl (by kernel_rfl) (by kernel_rfl) (by kernel_rfl) rfl (fun _ _ _ h => h) (Or.inl ⟨by rfl, ?h8⟩) hSK (fun hSK => ?_)
            case h8 => intro w hSw; obtain ⟨hd0, hd1⟩ := hSw; first | (go_simp; done) | (go_simp; with_reducible rfl)
            try simp only [Act.put, List.setIfInBounds_toArray, List.set_cons_zero, List.set_cons_succ]
            refine doneL (by kernel_rfl) ?_ _
            refine NoPanic.normal ?_
            have hA := after_put hR hL' hm' hf' ks (kw4.size) hz2
            obtain ⟨x, hx⟩ : ∃ x, x = w4.heap.size := ⟨_, rfl⟩
            rw [← hx] at hA ⊢
            generalize (w5.setCell ⟨x, 0, none⟩ (.slice B1 m'.length d1)).setCell ⟨x, 1, none⟩ (.slice B2 m'.length d2) = W at *
            clear hx
        case' b21 =>
          rw [if_pos (by rfl)]
          go_simp
          refine hK.out _ _ (SK.both ⟨cell_chg (S := fun k => k = s ∨ L.fp k) ((Chg.refl _ wr).drew.alloc _) y0 hqT, cell_chg (S := fun k => k = s ∨ L.fp k) ((Chg.refl _ wr).drew.alloc _) y1 hqT, cell_chg (S := fun k => k = s ∨ L.fp k) ((Chg.refl _ wr).drew.alloc _) c0 hbT⟩ trivial _) (fun hSK => ?_)
          clear hK K
          try simp only [Act.put, List.setIfInBounds_toArray, List.set_cons_zero, List.set_cons_succ]
          refine readyL (i := 7) (by kernel_rfl) rfl (fun K hK => ?_)
          rw [if_pos (by rfl)]
          go_simp
          refine (hputs _ ((Chg.refl _ wr).drew.alloc _)).mono ?_
          rintro e w4 ⟨vp, l, rfl, hpl, hpf, hl4, hsm, k4⟩
          have kw4 : Same wr w4 := ((Chg.refl _ wr).drew.alloc _).trans k4
          have hz1 : Blk w4 wr.heap.size 32 [.slice none 0 0, .slice none 0 0] := (Blk.new wr.drew 32 _).same k4
          refine hK.out _ _ (SK.both ⟨cell_chg (S := fun k => k = s ∨ L.fp k) (Chg.of_same kw4) y0 hqT, cell_chg (S := fun k => k = s ∨ L.fp k) (Chg.of_same kw4) y1 hqT, cell_chg (S := fun k => k = s ∨ L.fp k) (Chg.of_same kw4) c0 hbT⟩ trivial _) (fun hSK => ?_)
          clear hK K
          try simp only [Act.put, List.setIfInBounds_toArray, List.set_cons_zero, List.set_cons_succ]
          refine readyL (i := 8) (by kernel_rfl) rfl (fun K hK => ?_)
          rw [if_pos (by rfl)]
          go_simp
          refine (hstep _ (kw4) vp l (hpl) (hpf) hl4 hsm).mono ?_
          rintro e w5 ⟨v', L', D', turn', idx', tab', m', rfl, hL', hfu', hlen', hm', hf', hd', _, hfp', kst, htu', hmr⟩
          obtain ⟨B1, d1, B2, d2, rfl⟩ := hm'.form
          dsimp only
          have ks : Chg (fun k => k = s ∨ L.fp k) wr w5 := (Chg.of_same kw4).trans kst
          have hz2 : Blk w5 wr.heap.size 32 [.slice none 0 0, .slice none 0 0] := hz1.chg kst (hN _ (Nat.le_refl _))
          obtain ⟨z0, z1, z2, z3, z4, z5⟩ := hz2.st2
          refine hK.out _ _ (SK.both ⟨cell_chg (S := fun k => k = s ∨ L.fp k) ks y0 hqT, cell_chg (S := fun k => k = s ∨ L.fp k) ks y1 hqT, cell_chg (S := fun k => k = s ∨ L.fp k) ks c0 hbT⟩ trivial _) (fun hSK => ?_)
          clear hK K
          try simp only [Act.put, List.setIfInBounds_toArray, List.set_cons_zero, List.set_cons_succ]
          refine takeK0 (i := 9) (v := ?v10) rfl (by kernel_rfl) (by kernel_rfl) (by kernel_rfl) rfl (fun _ _ _ h => h) (Or.inl ⟨by rfl, ?h10⟩) hSK (fun hSK => ?_)
          case h10 => intro w hSw; obtain ⟨hd0, hd1⟩ := hSw; first | (go_simp; done) | (go_simp; with_reducible rfl)
          try simp only [Act.put, List.setIfInBounds_toArray, List.set_cons_zero, List.set_cons_succ]
          refine takeK0 (i := 10) (v := ?v11) rfl (by kernel_rfl) (by kernel_rfl) (by kernel_rfl) rfl (fun _ _ _ h => h) (Or.inl ⟨by rfl, ?h11⟩) hSK (fun hSK => ?_)
          case h11 => intro w hSw; obtain ⟨hd0, hd1⟩ := hSw; first | (go_simp; done) | (go_simp; with_reducible rfl)
          try simp only [Act.put, List.setIfInBounds_toArray, List.set_cons_zero, List.set_cons_succ]
          refine takeK0 (i := 11) (v := ?v12) rfl (by kernel_rfl) (by kernel_rfl) (by kernel_rfl) rfl (fun _ _ _ h => h) (Or.inl ⟨by rfl, ?h12⟩) hSK (fun hSK => ?_)
          case h12 => intro w hSw; obtain ⟨hd0, hd1⟩ := hSw; first | (go_simp; done) | (go_simp; with_reducible rfl)
          try simp only [Act.put, List.setIfInBounds_toArray, List.set_cons_zero, List.set_cons_succ]
          refine readyL (i := 13) (by kernel_rfl) rfl (fun K hK => ?_)
          rw [if_pos (by rfl)]
          go_simp
          refine hK.out _ _ (SK.both ⟨cell_chg (Chg.put2 w5 wr.heap.size _ _) (cell_chg (S := fun k => k = s ∨ L.fp k) ks y0 hqT) (show q ≠ wr.heap.size from by omega), cell_chg (Chg.put2 w5 wr.heap.size _ _) (cell_chg (S := fun k => k = s ∨ L.fp k) ks y1 hqT) (show q ≠ wr.heap.size from by omega), cell_chg (Chg.put2 w5 wr.heap.size _ _) (cell_chg (S := fun k => k = s ∨ L.fp k) ks c0 hbT) (show b ≠ wr.heap.size from by omega)⟩ trivial _) (fun hSK => ?_)
          clear hK K
          try simp only [Act.put, List.setIfInBounds_toArray, List.set_cons_zero, List.set_cons_succ]
          refine takeK0 (i := 14) (v := ?v13) rfl (by kernel_rfl) (by kernel_rfl) (by kernel_rfl) rfl (fun _ _ _ h => h) (Or.inl ⟨by rfl, ?h13⟩) hSK (fun hSK => ?_)
          case h13 => intro w hSw; obtain ⟨hd0, hd1⟩ := hSw; first | (go_simp; done) | (go_simp; with_reducible rfl)
          try simp only [Act.put, List.setIfInBounds_toArray, List.set_cons_zero, List.set_cons_succ]
          refine doneL (by kernel_rfl) ?_ _
          refine NoPanic.normal ?_
          have hA := after_put hR hL' hm' hf' ks (Nat.le_refl _) hz2
          obtain ⟨x, hx⟩ : ∃ x, x = wr.heap.size := ⟨_, rfl⟩
          rw [← hx] at hA ⊢
          generalize (w5.setCell ⟨x, 0, none⟩ (.slice B1 m'.length d1)).setCell ⟨x, 1, none⟩ (.slice B2 m'.length d2) = W at *
          clear hx
        all_goals
          have hq4 : w.heap.size ≤ w4.heap.size := Nat.le_trans hR.same.size kw4.size
          obtain ⟨x0, x1, _⟩ := hA.bx.st2
          obtain ⟨t0, t1, t2, t3, t4, t5⟩ := hA.bq.st2
          have hR2 := hR.next hA hq hfu' hlen' hd' hfp' (by first | exact hq4 | (rw [World.size_alloc]; omega)) htu'
          have HK2 := Lib.hid (show ∀ x ∈ m', x.1 ∈ keys5 from hmr.elim (fun h => h.1 ▸ HK.out) (fun h => h.2 ▸ mpPuts_keysIn (K := fun k => k ∈ keys5) l HK.out (fun p hp => (hsm p hp).2)))
          clear hmr hA hputs hstep hR hL' hm' hf' hpl hpf hsm kst ks hfp' y0 y1 c0 hbs hSK hN hqT hbT
          go_wp2
          exact ⟨⟨j + 1, L', D', turn', idx', tab', m', _, _, by omega, rfl, HK2, Lib.hid hR2⟩, by simp only [intOf]; omega⟩
      · have hR := HR.out
        have hK := HK.out
        obtain ⟨A1, c1, A2, c2, he⟩ := hR.map.form
        cases he
        have hd := hR.hd
        subst hd
        have hwn := where_none hR.live hK
        clear hK
        go_wp2_with fail
        refine hwn.mono ?_
        rintro e w4 ⟨v4, rfl, k4⟩
        have hR := hR.then_same k4
        obtain ⟨y0, y1, _⟩ := hR.blk.st2
        clear hwn k4
        by_cases hm0 : m.length = 0
        · have hz0 : ((m.length : Int) == 0) = true := by
            have : (m.length : Int) = 0 := by omega
            simpa using this
          have hkk := hR.same
          clear hm0
          go_wp2_with (first
            | (go_at_call 14; refine (err_spec _ _).mono ?_; rintro e w9 ⟨rfl, rfl⟩)
            | (go_at_call 12; refine (awake_spec _).mono ?_; rintro e w2 ⟨rfl, k2⟩))
          go_ret
          exact ⟨rfl, hkk.trans k2⟩
        · have hz0 : ((m.length : Int) == 0) = false := by
            have : (m.length : Int) ≠ 0 := by omega
            simpa using this
          have hml := hR.live.dg.msmall.1
          obtain ⟨kk, hkk, hkl⟩ : ∃ kk : Nat, (which : Int) % (m.length : Int) = (kk : Int) ∧ kk < m.length := ⟨which % m.length, rfl, Nat.mod_lt _ (by omega)⟩
          have hmt : m.length = tab.length := by have := congrArg List.length hR.live.dg.keys; simpa using this
          have hkt : kk < tab.length := by omega
          have Hmt := Lib.hid hmt
          clear hmt
          obtain ⟨_, _, hmv, ht1, ht2⟩ := hR.map
          cases hmv
          obtain ⟨b1, o1, hA1, x1⟩ := (ht1.cell).2 kk (by simpa using hkl)
          obtain ⟨b2, o2, hA2, x2⟩ := (ht2.cell).2 kk (by simpa using hkl)
          simp only [List.getElem_map] at x1 x2
          subst hA1 hA2
          have hpl := where_plain hR.live.dg hkt hkl
          have hturn := fun (q r by_ : Nat) hq hr hp D' hD' => hR.live.dg.turn (q := q) (r := r) (by_ := by_) hkt hq hr hp (D' := D') hD' hkl
          have hwl := where_live hR.live hkt
          rw [← hpl.1] at hwl
          obtain ⟨hk1, hsz, hb131, hsl, hf4, hsec⟩ := hpl
          clear hk1
          rw [← hsz] at hturn
          clear hsz
          generalize tab[kk].2.secs = secs at *
          have hgm : m[kk] = (m[kk].1, m[kk].2) := rfl
          generalize hkey : m[kk].1 = key at *
          generalize hblob : m[kk].2 = blob at *
          have hR1 := hR
          have hR := Lib.hid hR1
          clear hR1 HR ht1 ht2 y0 y1
          clear hz0 hm0
          have hR1 := hR.out
          obtain ⟨y0, y1, _⟩ := hR1.blk.st2
          clear hR1
          have hq63 : ((blob.length : Int) + 63) / 64 = (secs.length : Int) := by omega
          have hn2k : secs.length ≤ 2049 := by omega
          have Hsl := Lib.hid hsl
          clear hsl
          have hss := S_size blob
          go_wp2_with (go_at_call 14; refine (err_spec _ _).mono ?_; rintro e w9 ⟨rfl, rfl⟩)
          refine hwl.mono ?_
          rintro e w5 ⟨v5, rfl, ⟨A5, c5, rfl, hs5⟩, k5⟩
          have hR2 := hR.out.then_same k5
          obtain ⟨y0, y1, _⟩ := hR2.blk.st2
          replace x2 := cell_chg k5 x2 (fun h => h)
          go_wp2_with (go_at_call 14; refine (err_spec _ _).mono ?_; rintro e w9 ⟨rfl, rfl⟩)
          clear y0 y1 x1 x2 hwl hq63
          have hwlp : ∀ i : Nat, i < secs.length → ∀ W, Same w5 W → ∃ sc, Calls Tryz.prog 25 #[.pointer (some ⟨L.d, 0, none⟩), .int .i64 (secs.getD i 0 : Nat)] W (fun e w' => e = .returned (.tuple #[.string sc, .int .i64 0]) ∧ Same W w') ∧ sc.size = 64 ∧
              sc.extract 0 (min blob.length (64 * i + 64) - 64 * i) = S ((blob.drop (64 * i)).take 64) ∧ (S blob).extract (64 * i) (min blob.length (64 * i + 64)) = S ((blob.drop (64 * i)).take 64) := by
            intro i hi W kW
            obtain ⟨_, _, sc, h1, h2, h3, h4⟩ := hsec i hi
            have hr := read_spec (hR2.live.disk.same kW) (by rw [hR2.live.dg.loose]; simp) (secs[i] : Int)
            rw [h1] at hr
            refine ⟨sc, ?_, h2, h3, h4⟩
            rw [show secs.getD i 0 = secs[i] by simp [List.getD, hi]]
            exact hr
          have hR2h := Lib.hid hR2
          clear hR2 hR
          go_loopw [23] (fun i wr => ∃ (j : Nat), j ≤ secs.length ∧ i = .int .i64 j ∧ Same w5 wr) (fun i _ => secs.length - (intOf i).toNat)
          case atStart => exact ⟨0, Nat.zero_le _, rfl, .refl _ _⟩
          case round =>
            obtain ⟨i, hi, rfl, k6⟩ := hrel
            by_cases hit : i < secs.length
            · obtain ⟨sc, hrd, hsc, hx1, hx2⟩ := hwlp i hit _ k6
              clear hwlp hturn
              rcases hs5 with h0 | ⟨b5, o5, c55, hA5, hb5, hr5⟩
              · rw [h0] at hit; simp at hit
              subst hA5
              have c0 := hr5.chg k6 (fun h => h) i (.int .i64 (secs.getD i 0 : Nat)) (by simp [natInts, List.getElem?_map, List.getElem?_eq_getElem hit, List.getD])
              obtain ⟨hg1, hg2, hg3⟩ := hsec i hit
              have hg2' : secs.getD i 0 ≤ 4096 := by rw [show secs.getD i 0 = secs[i] by simp [List.getD, hit]]; omega
              clear hg1 hg2 hg3 hsec
              generalize secs.getD i 0 = a at *
              have h64 := Hsl.out
              have hlo : (64 : Int) * (i : Int) = ((64 * i : Nat) : Int) := by omega
              have hmin : min (blob.length : Int) (((64 * i : Nat) : Int) + 64) = ((min blob.length (64 * i + 64) : Nat) : Int) := by omega
              have hb1 : 64 * i ≤ min blob.length (64 * i + 64) := by omega
              have hb2 : min blob.length (64 * i + 64) ≤ blob.length := by omega
              have hb3 : min blob.length (64 * i + 64) - 64 * i ≤ 64 := by omega
              have hps : ((blob.drop (64 * i)).take 64).length = min blob.length (64 * i + 64) - 64 * i := by simp; omega
              rw [← hps] at hx1 hb3
              clear h64 hps
              generalize min blob.length (64 * i + 64) = hi' at *
              generalize 64 * i = lo at *
              have hpz := S_size ((blob.drop lo).take 64)
              have hse := strEq ((blob.drop lo).take 64) ((blob.drop lo).take 64)
              simp only [decide_true] at hse
              generalize ((blob.drop lo).take 64).length = plen at *
              generalize S ((blob.drop lo).take 64) = part at *
              go_wp2_with fail
              refine hrd.mono ?_
              rintro e w7 ⟨rfl, k7⟩
              go_wp2_with (go_at_call 14; refine (err_spec _ _).mono ?_; rintro e w9 ⟨rfl, rfl⟩)
              exact ⟨⟨i + 1, by omega, rfl, k6.trans k7⟩, by simp only [intOf]; omega⟩
            · obtain rfl : i = secs.length := by omega
              have hR3 := hR2h.out.then_same k6
              clear hwlp
              by_cases hb0 : blob.length = 0
              · have hz0 : ((blob.length : Int) == 0) = true := by
                  have : (blob.length : Int) = 0 := by omega
                  simpa using this
                have hsm := hR3.same
                clear hb0 hR3 hsec hturn
                go_wp2_with (go_at_call 12; refine (awake_spec _).mono ?_; rintro e w7 ⟨rfl, k7⟩)
                go_ret
                exact ⟨rfl, hsm.trans k7⟩
              · have hz0 : ((blob.length : Int) == 0) = false := by
                  have : (blob.length : Int) ≠ 0 := by omega
                  simpa using this
                obtain ⟨p, hp, hpl⟩ : ∃ p : Nat, (at_ : Int) % (blob.length : Int) = (p : Int) ∧ p < blob.length := ⟨at_ % blob.length, rfl, Nat.mod_lt _ (by omega)⟩
                obtain ⟨bt, hbt, hbl⟩ : ∃ bt : Nat, (by_ : Int) % 255 = (bt : Int) ∧ bt < 255 := ⟨by_ % 255, rfl, Nat.mod_lt _ (by omega)⟩
                have hpq : p / 64 < secs.length := by have := Hsl.out; omega
                have hpr : p % 64 < 64 := Nat.mod_lt _ (by omega)
                have hpe : 64 * (p / 64) + p % 64 = p := by omega
                have hp1 : (p : Int) / 64 = ((p / 64 : Nat) : Int) := by omega
                have hp2 : (p : Int) % 64 = ((p % 64 : Nat) : Int) := by omega
                have hturn := hturn (p / 64) (p % 64) (1 + bt) hpq hpr (by omega)
                rw [hpe] at hturn
                have hgs := hsec (p / 64) hpq
                clear hsec hpe hb0
                generalize p / 64 = pq at *
                generalize p % 64 = pr at *
                rcases hs5 with h0 | ⟨b5, o5, c55, hA5, hb5, hr5⟩
                · rw [h0] at hpq; simp at hpq
                subst hA5
                have hgd : secs.getD pq 0 = secs[pq] := by simp [List.getD, hpq]
                rw [← hgd] at hturn hgs
                obtain ⟨hg1, hg2, hg3⟩ := hgs
                have hb6 := hb5.chg k6 (fun h => h)
                have c6 := hr5.chg k6 (fun h => h)
                have hc6 := fun W (k : Chg L.fp wr W) => c6.chg k (fun e => hR3.live.disk.ne_of hb6 (by decide) (by decide) (by decide) e) pq (.int .i64 (secs.getD pq 0 : Nat)) (by rw [hgd]; simp [natInts, List.getElem?_map, List.getElem?_eq_getElem hpq])
                clear hgd hg3 hr5 hb5 c6 hb6
                generalize secs.getD pq 0 = a at *
                have hfl := flush_spec hR3.live.disk (by rw [hR3.live.dg.loose]; simp)
                rw [hR3.live.dg.rest] at hfl
                have hDe : D = ⟨D.firm, [], false, D.fuse⟩ := by
                  have h1 := hR3.live.dg.up
                  have h2 := hR3.live.dg.loose
                  cases D; dsimp only at h1 h2; subst h1 h2; rfl
                have hsm := hR3.same
                go_wp2_with fail
                refine hfl.mono ?_
                rintro e w7 ⟨rfl, L7, hD7, k7, e7, _, hf7⟩
                have c7 := hc6 _ k7
                rw [hDe] at hD7
                have htn := turn_spec hD7 a pr (1 + bt) hg2 hpr (by omega) (by omega)
                have hd7 : L7.d = L.d := e7
                rw [hd7, show ((1 + bt : Nat) : Int) = 1 + (bt : Int) by omega] at htn
                go_wp2_with fail
                refine htn.mono ?_
                rintro e w8 ⟨rfl, L8, hD8, k8, e8, _, hf8⟩
                have k78 : Chg L.fp wr w8 := k7.trans' k8 (fun _ _ h => h) (fun j hj e => (hf7 j e).elim id (fun e => absurd hj (by omega)))
                obtain ⟨hDG, _⟩ := hturn _ rfl
                have hSt := hR3.live.store.chgD hR3.live.disk k78
                rw [← hd7, ← e8] at hSt
                have hL8 : LiveM w8 L8 s _ turn idx tab _ := ⟨hD8, hDG, hSt⟩
                have hQ8 := hR3.blk.chg k78 (hR3.live.disk.ne_of hR3.blk (by decide) (by decide) (by decide))
                have hM8 := hR3.map.chg hR3.from' k78 (fun b hb e => hb.2.2 e)
                have hS8 : Same w w8 := hR3.same.trans' k78 (fun _ _ h => h) (fun j hj e => by have := hR3.hfp j e; omega)
                have hdd : L8.d = L.d := e8.trans hd7
                clear hD8 hDG hSt hturn hfl htn hD7 hc6 hR3 hR2h k7 k8 k78 hf7 hf8 c7 e7 e8 hd7 hsm hDe k6 hg1 hg2 hf4 k5 Hsl
                go_wp2_with (go_at_call 14; refine (err_spec _ _).mono ?_; rintro e w9 ⟨rfl, rfl⟩)
                have hconv := fun W => Lib.run_convert_string_bytes (P := Tryz.prog) W 9 38 5 (S blob) Tryz.underlying9 Tryz.underlying38 Tryz.underlying5
                have hbl := bytesWorld_blk w8 (S blob)
                have hus : (u8s (S blob).data.toList).length = blob.length := by simp [u8s, S]
                have b0 := hbl.cell p (by omega)
                have b1' := hbl.frozen p (by omega)
                have b2' : (u8s (S blob).data.toList)[p]'(by omega) = .int .u8 (blob.getD p 0).toNat := by
                  show (u8s blob)[p]'_ = _
                  simp [u8s, hpl, List.getD]
                rw [b2'] at b0
                clear b2' hus
                have hx := bits_xor (blob.getD p 0) (1 + bt) (by omega)
                rw [show ((1 + bt : Nat) : Int) = 1 + (bt : Int) by omega] at hx
                have hb3 := hbl.setCell p (.int .u8 ((blob.getD p 0 ^^^ UInt8.ofNat (1 + bt)).toNat : Int)) (by rw [show (u8s (S blob).data.toList).length = blob.length by simp [u8s, S]]; omega)
                have hW0 : Same w8 ((Lib.bytesWorld w8 5 (S blob)).setCell ⟨w8.heap.size, p, none⟩ (.int .u8 ((blob.getD p 0 ^^^ UInt8.ofNat (1 + bt)).toNat : Int))) := (bytesWorld_same w8 5 (S blob)).setCell (fun h => absurd h (Nat.lt_irrefl _)) _
                rw [show (u8s (S blob).data.toList).set p (.int .u8 ((blob.getD p 0 ^^^ UInt8.ofNat (1 + bt)).toNat : Int)) = u8s (blob.set p (blob.getD p 0 ^^^ UInt8.ofNat (1 + bt))) by simp [u8s, S, List.map_set]] at hb3
                generalize blob.getD p 0 ^^^ UInt8.ofNat (1 + bt) = z at *
                generalize blob.getD p 0 = x at *
                obtain ⟨_, _, hmv, _, hT2⟩ := hM8.same hW0
                obtain ⟨_, _, hmv8, hT1, _⟩ := hM8
                cases hmv8
                cases hmv
                have hml2 : (m.map (·.2)).length = m.length := by simp
                obtain ⟨g, cap9, w9, happ, hown, k9⟩ := app_all (A := some ⟨b2, o2, none⟩) (c := c2) (l := m.map (·.2)) (by rw [hml2]; exact hT2) (by rw [hml2]; omega) (by rw [hml2]; omega)
                rw [hml2] at happ hown
                have y1 := ((hQ8.same hW0).alloc (.cells #[] 9)).cell 1
                simp only [List.getElem?_cons_zero, List.getElem?_cons_succ] at y1
                have hgb : ((Lib.bytesWorld w8 5 (S blob)).setCell ⟨w8.heap.size, p, none⟩ (.int .u8 (z.toNat : Int))).heap.size ≤ g := own_base hown rfl
                generalize hWb : (Lib.bytesWorld w8 5 (S blob)).setCell ⟨w8.heap.size, p, none⟩ (.int .u8 (z.toNat : Int)) = Wb at hb3 hW0 happ hown k9 y1 hgb
                clear hT2
                have hq8 := hQ8.lt
                have hz8 := hW0.size
                have hQ9 := (hQ8.same hW0).same k9
                have f9 := hQ9.frozen 1
                have c9 := hQ9.cell 1
                simp only [List.getElem?_cons_zero, List.getElem?_cons_succ] at c9
                have k10 : Chg (fun k => k = q) w9 (w9.setCell ⟨q, 1, none⟩ (.slice (some ⟨g, 0, none⟩) m.length cap9)) := Chg.set1 _ _ _ _
                have hQ10 := hQ9.setCell 1 (.slice (some ⟨g, 0, none⟩) m.length cap9)
                have y10 := hQ10.cell 1
                simp only [List.getElem?_cons_zero, List.getElem?_cons_succ, List.set_cons_succ, List.set_cons_zero] at y10
                have hown10 := own_chg hown k10 (fun b hb e => own_ne hown hQ9 (by decide) (e ▸ hb))
                have hback := back_string (P := Tryz.prog) 38 9 5 ((hb3.chg k9 (fun h => h)).chg k10 (by omega)) Tryz.underlying38 Tryz.underlying5 Tryz.underlying9 (grownCap w8 blob.length 0 5)
                rw [List.length_set] at hback
                have fg := hown10.frozenAt kk
                have cg := hown10.cellAt kk (by omega)
                rw [show (keyCells (m.map (·.2)))[kk]? = some (.string (S blob)) by simp [keyCells, hkl, hblob]] at cg
                obtain ⟨hown11, _⟩ := hown10.stored kk (.string (S (blob.set p z)))
                have k811 : Chg (fun k => k = q) w8 ((w9.setCell ⟨q, 1, none⟩ (.slice (some ⟨g, 0, none⟩) m.length cap9)).setCell ⟨g, kk, none⟩ (.string (S (blob.set p z)))) :=
                  (Chg.after_same (hW0.trans k9) k10).setCell (p := ⟨g, kk, none⟩) (fun h => absurd h (by show ¬ g < w8.heap.size; omega)) _
                have hL11 := hL8.chg1 hQ8 k811
                have hT11 := hT1.chg1 hQ8 k811
                have hQ11 := hQ10.setOther ⟨g, kk, none⟩ (.string (S (blob.set p z))) (by show q ≠ g; omega)
                obtain ⟨z0, z1, _⟩ := hQ11.st2
                rw [show (keyCells (m.map (·.2))).set kk (.string (S (blob.set p z))) = keyCells ((m.map (·.2)).set kk (blob.set p z)) by simp [keyCells, List.map_set]] at hown11
                have hm1 : (m.set kk (key, blob.set p z)).map (·.1) = m.map (·.1) := by
                  rw [List.map_set]
                  refine List.ext_getElem (by simp) (fun j h1 h2 => ?_)
                  rw [List.getElem_set]
                  split
                  · next h => subst h; simp [hkey]
                  · rfl
                have hm2 : (m.set kk (key, blob.set p z)).map (·.2) = (m.map (·.2)).set kk (blob.set p z) := by rw [List.map_set]
                have hml3 : (m.set kk (key, blob.set p z)).length = m.length := by simp
                have hMap : MapV ((w9.setCell ⟨q, 1, none⟩ (.slice (some ⟨g, 0, none⟩) m.length cap9)).setCell ⟨g, kk, none⟩ (.string (S (blob.set p z)))) (.agg #[.slice (some ⟨b1, o1, none⟩) m.length c1, .slice (some ⟨g, 0, none⟩) m.length cap9]) (m.set kk (key, blob.set p z)) :=
                  ⟨_, _, rfl, by rw [hm1]; exact hT11, by rw [hm2]; exact TextsAt.of_own hown11⟩
                have hS11 := hS8.trans' k811 (fun _ _ h => h) (fun j hj e => by omega)
                have his := is_spec hL11 hMap (by rw [hml3]; omega)
                rw [decide_eq_true rfl] at his
                clear hMap hL11 hT11 hQ11 hm1 hm2 hml3 hown11 hown10 hown hQ10 hQ9 hQ8 hb3 hT1 hL8 k811 k10 hbl hW0 hml2
                change (convert 38 9 _).run Tryz.prog _ = .ok (.string (S (blob.set p z))) _ at hback
                rw [hconv]
                clear hconv
                go_wp2_with (at_builtin; refine wpList_app_run rfl _ _ 30 rfl rfl rfl happ ?_)
                refine his.mono ?_
                rintro e w12 ⟨rfl, k12⟩
                have hS12 := hS11.trans k12
                go_wp2_with (go_at_call 12; refine (awake_spec _).mono ?_; rintro e w13 ⟨rfl, k13⟩)
                go_ret
                exact ⟨rfl, hS12.trans k13⟩
end Go.Proofs.Obj

namespace Go.Proofs.YtiiinmleiigckaaGreatDoor
open Go.ChangeShapes Go.WideShapes Go.ChangeAt Go.RowKit Go.Proofs.Obj

set_option maxRecDepth 100000 in
/-- WHAT THE WALK GIVES, FOR EVERY ARGUMENT. -/
theorem objectsWhere_contract (H : Type) (enc : TypeId × Value → H) (W : World) (base : Nat) (args : Array Value) (ds gs : List (DataW H)) (before : List MemPlace)
    (hval : ∀ (j : Nat) t v, Tryz.f7.params[j]? = some t → args[j]? = some v → Value.okWide Tryz.prog W .any base t v)
    (hW : DataW.Whole enc Tryz.prog Tryz.f7.params.toList Rows.objectsWhereSpec.vars false W args.toList ds gs before)
    (hz : (DataW.weightsEach Tryz.prog (Tryz.f7.params.toList ++ (OpenSpec.ofChange Rows.objectsWhereSpec).bare.plain.varTypes Tryz.prog) (ds ++ gs)).all (· ≤ reachBytes) = true) :
    Calls Tryz.prog 7 args W fun e W' => ∃ v, e = .returned v ∧ Rows.objectsWhereSpec.post enc Tryz.prog Tryz.f7 false true false false W args v W' := by
  have hW' := hW
  obtain ⟨p, q, hA0, hV, rfl, hfz, hnd⟩ := hW
  have hA : DataW.TrodAll enc Tryz.prog W 0 (fun _ => true) true Tryz.f7.params.toList args.toList ds p := hA0
  rw [Tryz.params7] at hA hval
  obtain ⟨v0, vs0, d0, ds0, p0, q0, hargs, rfl, rfl, h0, r0⟩ := trodAll_cons hA
  obtain ⟨v1, vs1, d1, ds1, p1, q1, rfl, rfl, rfl, h1, r1⟩ := trodAll_cons r0
  obtain ⟨v2, vs2, d2, ds2, p2, q2, rfl, rfl, rfl, h2, r2⟩ := trodAll_cons r1
  obtain ⟨v3, vs3, d3, ds3, p3, q3, rfl, rfl, rfl, h3, r3⟩ := trodAll_cons r2
  obtain ⟨rfl, rfl, rfl⟩ := trodAll_nil r3
  obtain rfl : args = #[v0, v1, v2, v3] := by cases args; simp_all
  obtain ⟨rfl, rfl⟩ := trodVars_none hV
  obtain ⟨b0, len0, cap0, rfl⟩ := okWide_slice Tryz.underlying22 (hval 0 22 v0 rfl rfl)
  obtain ⟨a1, rfl, rfl, rfl, w1⟩ := open_int Tryz.underlying5 (hval 1 5 v1 rfl rfl) h1
  obtain ⟨a2, rfl, rfl, rfl, w2⟩ := open_int Tryz.underlying5 (hval 2 5 v2 rfl rfl) h2
  obtain ⟨a3, rfl, rfl, rfl, w3⟩ := open_int Tryz.underlying55 (hval 3 55 v3 rfl rfl) h3
  clear hA0
  obtain ⟨ls0, hls0, hll0⟩ := open_byteRows h0 (fun n hn => by
    have := List.all_eq_true.1 hz n (DataW.weights_mem_each (j := 0) (t := 22) (d := d0) rfl rfl n hn)
    simpa using this)
  obtain ⟨n1, rfl, hn1⟩ := open_u8 w1
  obtain ⟨n2, rfl, hn2⟩ := open_u8 w2
  obtain ⟨n3, rfl, hn3⟩ := open_u16 w3
  simp only [List.append_nil] at hW'
  refine (where_walk hls0 hll0 hn1 hn2 hn3).mono fun e W' ⟨he, hg⟩ => ?_
  subst he
  have hB := Chg.same_below hg
  exact ⟨_, rfl, _, _, _, [], _, [], hW', trodAll_mk1 (shut_bool Tryz.underlying4 _), (trodAll_cons_mk (Below.trod laidOutT (by kernel_rfl) (of_decide_eq_true (by kernel_rfl)) h0 hB (fun x hx => hW'.lt x (by simp [hx]))) (trodAll_cons_mk (shut_int Tryz.underlying5 w1) (trodAll_cons_mk (shut_int Tryz.underlying5 w2) (trodAll_cons_mk (shut_int Tryz.underlying55 w3) trodAll_mk0)))), rfl, hB.frame _, fun h => by cases h⟩

abbrev objectsWhere_args : Array Value := #[.slice none 0 0, .int .u8 0, .int .u8 0, .int .u16 0]
theorem objectsWhere_laid (os : Os) : laidMet Tryz.prog Rows.objectsWhereRow.laid ((laidWorld os).forCall (fun _ _ => 0) ⟨#[], objectsWhere_args, []⟩).memory :=
  laidMet_of_run' 8 (by kernel_rfl) (by kernel_rfl)
theorem objectsWhere_reads (os : Os) {H : Type} (enc : TypeId × Value → H) : ∃ places, DataW.whole enc Tryz.prog ((laidWorld os).forCall (fun _ _ => 0) ⟨#[], objectsWhere_args, []⟩).memory Tryz.f7.params.toList Rows.objectsWhereSpec.vars false objectsWhere_args.toList 8 = some ([.nil, .lit (.int .u8 0), .lit (.int .u8 0), .lit (.int .u16 0)], [], places) :=
  ⟨[], by kernel_rfl⟩

set_option maxRecDepth 100000 in
theorem objectsWhere_lifted (os : Os) (started : os.Started) (H : Type) (enc : TypeId × Value → H) (F : Stop.Interp) :
    ReturnsInHanded {} Tryz.checked os 7 .any ((OpenSpec.ofChange Rows.objectsWhereSpec).preRow enc Tryz.prog Tryz.f7 Rows.objectsWhereRow.domain false Rows.objectsWhereRow.laid) (((OpenSpec.ofChange Rows.objectsWhereSpec).at F).post enc Tryz.prog Tryz.f7 false true false false) := by
  obtain ⟨places, hx⟩ := objectsWhere_reads os enc
  refine returnsInHanded_of_row (C := Tryz.checked) (s := OpenSpec.ofChange Rows.objectsWhereSpec) ownT started (by kernel_rfl) Tryz.func7
    (witness_row_at (enc := enc) (C := Tryz.checked) false (laidWorld os) objectsWhere_args rfl (by kernel_rfl) (by kernel_rfl) (by kernel_rfl)
      (OpenSpec.preRow_of_cond 8 hx (by kernel_rfl) (fun k hk => by cases hk) (by kernel_rfl) (objectsWhere_laid os))) ?_
  intro W base args ds gs before hval hW _ hcond hz _ _ _
  exact objectsWhere_contract H enc W base args ds gs before hval hW hz

theorem objectsWhere_said : Rows.ObjectsWhereSaid :=
  OpenClaim.holds_of_cond 7 Tryz.f7 rfl rfl rfl rfl rfl rfl rfl ⟨rfl, rfl, rfl, rfl, rfl⟩ rfl rfl rfl rfl rfl (by kernel_rfl) Tryz.func7 (by kernel_rfl)
    (of_decide_eq_true (by kernel_rfl)) (by unfold Func.isWrapper; first | (rw [if_pos (by decide +kernel)]; kernel_rfl) | (rw [if_neg (by decide +kernel)]; exact ⟨rfl, rfl⟩))
    (fun os started H enc _ F => by rw [OpenClaim.pre_eq_preRow]; exact objectsWhere_lifted os started H enc F)

theorem objectsWhere_plain (f : FuncId) (fn : Func) (hf : Tryz.pinned.checked.prog.funcNamed "shelfmark/shelfmarklaw17.ObjectsWhere" = some f) (hfn : Tryz.pinned.checked.prog.funcs[f]? = some fn) :
    true = Tryz.pinned.checked.prog.looks [] ∧ ∀ (j : Nat) t, fn.params[j]? = some t → Tryz.pinned.checked.prog.wantsStandIn t = false := by
  obtain rfl : f = 7 := Option.some.inj ((show Tryz.prog.funcNamed "shelfmark/shelfmarklaw17.ObjectsWhere" = some 7 by kernel_rfl).symm.trans hf) |>.symm
  obtain rfl : fn = Tryz.f7 := (Option.some.inj (Tryz.func7.symm.trans hfn)).symm
  refine ⟨by kernel_rfl, fun j t ht => ?_⟩
  rw [Tryz.params7] at ht
  have ht2 := Array.mem_of_getElem? ht
  simp only [List.mem_toArray, List.mem_cons, List.not_mem_nil, or_false] at ht2
  rcases ht2 with rfl | rfl | rfl | rfl
  · exact (show Tryz.prog.wantsStandIn 22 = false by kernel_rfl)
  · exact (show Tryz.prog.wantsStandIn 5 = false by kernel_rfl)
  · exact (show Tryz.prog.wantsStandIn 5 = false by kernel_rfl)
  · exact (show Tryz.prog.wantsStandIn 55 = false by kernel_rfl)

/-- THE CARD. -/
theorem objectsWhere_card : Rows.ObjectsWhereCardSaid :=
  Claim7.holds_tied_plain_at .later [] _ _ _ _ objectsWhere_said (fun _ h => by cases h) (by kernel_rfl) (fun _ h => by cases h) objectsWhere_row_tie rfl ⟨rfl, rfl⟩ (by kernel_rfl) rfl objectsWhere_plain (by kernel_rfl)
#print axioms objectsWhere_card
end Go.Proofs.YtiiinmleiigckaaGreatDoor
