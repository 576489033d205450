/- ObjectsTwo holds: two stores on two disks do not touch one another; a key that is away is told so; the same again changes nothing. For every input; the card ties the two tables that the row lists. -/
import Derived.Test.YtiiinmleiigckaaGreatDoorGZB
import Derived.Test.YtiiinmleiigckaaGreatDoorGZC
import Derived.Test.YtiiinmleiigckaaGreatDoorCards
import Derived.Test.YtiiinmleiigckaaGreatDoorTie
import Derived.Deep.DeepHandedRow
import Derived.Lib.LaidTab
set_option linter.unusedVariables false
set_option linter.unusedSimpArgs false

/-
  Plain words on maps by rising keys: what a key has behind puts; the same puts twice; all keys gone.
-/
namespace Go.Proofs.Obj
open Go Go.RowKit Go.Shelf

theorem RisingK.tail {α : Type} {x : List UInt8 × α} {m : KL α} (h : RisingK (x :: m)) : RisingK m ∧ ∀ y ∈ m, bytesBefore x.1 y.1 = true := by
  unfold RisingK Rising at h ⊢
  rw [List.map_cons, List.pairwise_cons] at h
  exact ⟨h.2, fun y hy => h.1 _ (List.mem_map.2 ⟨y, hy, rfl⟩)⟩
theorem gGet_cons {α : Type} (k : List UInt8) (x : List UInt8 × α) (m : KL α) : gGet k (x :: m) = if x.1 = k then some x.2 else gGet k m := by
  unfold gGet
  rw [List.find?_cons]
  by_cases h : x.1 = k
  · simp [h]
  · have : (x.1 == k) = false := by simpa using h
    simp [this, h]
theorem gGet_none_of {α : Type} {k : List UInt8} : ∀ {m : KL α}, (∀ y ∈ m, y.1 ≠ k) → gGet k m = none
  | [], _ => rfl
  | x :: m, h => by rw [gGet_cons, if_neg (h x (by simp)), gGet_none_of (fun y hy => h y (by simp [hy]))]
/-- Two that rise and have the same at every key are one. -/
theorem rising_ext {α : Type} : ∀ {a b : KL α}, RisingK a → RisingK b → (∀ k, gGet k a = gGet k b) → a = b
  | [], [], _, _, _ => rfl
  | [], y :: b, _, _, h => by have := h y.1; rw [gGet_cons, if_pos rfl] at this; cases this
  | x :: a, [], _, _, h => by have := h x.1; rw [gGet_cons, if_pos rfl] at this; cases this
  | x :: a, y :: b, ha, hb, h => by
    obtain ⟨ha1, ha2⟩ := ha.tail
    obtain ⟨hb1, hb2⟩ := hb.tail
    have hxy : x.1 = y.1 := by
      cases h1 : bytesBefore x.1 y.1
      · by_cases he : x.1 = y.1
        · exact he
        · have h2 := bytesBefore_total h1 he
          have := h y.1
          rw [gGet_cons, gGet_cons, if_pos rfl, if_neg he, gGet_none_of (fun z hz e => by
            have h3 := bytesBefore_trans h2 (ha2 z hz)
            rw [e, bytesBefore_irrefl] at h3; cases h3)] at this
          cases this
      · have := h x.1
        have he : y.1 ≠ x.1 := fun e => by rw [e, bytesBefore_irrefl] at h1; cases h1
        rw [gGet_cons, gGet_cons, if_pos rfl, if_neg he, gGet_none_of (fun z hz e => by
          have h3 := bytesBefore_trans h1 (hb2 z hz)
          rw [e, bytesBefore_irrefl] at h3; cases h3)] at this
        cases this
    have hv : x.2 = y.2 := by
      have := h x.1
      rw [gGet_cons, gGet_cons, if_pos rfl, if_pos hxy.symm] at this
      exact Option.some.inj this
    have hxy2 : x = y := Prod.ext hxy hv
    subst hxy2
    rw [rising_ext ha1 hb1 (fun k => ?_)]
    by_cases he : x.1 = k
    · subst he
      rw [gGet_none_of (fun z hz e => by have h3 := ha2 z hz; rw [e, bytesBefore_irrefl] at h3; cases h3), gGet_none_of (fun z hz e => by have h3 := hb2 z hz; rw [e, bytesBefore_irrefl] at h3; cases h3)]
    · have := h k
      rwa [gGet_cons, gGet_cons, if_neg he, if_neg he] at this

theorem gGet_del {α : Type} (k q : List UInt8) : ∀ m : KL α, gGet k (gDel q m) = if q = k then none else gGet k m
  | [] => by simp [gDel, gGet]
  | x :: m => by
    have ih := gGet_del k q m
    unfold gDel at *
    rw [List.filter_cons]
    by_cases h : x.1 = q
    · rw [if_neg (by simp [h]), ih, gGet_cons]
      by_cases h2 : q = k
      · simp [h2]
      · rw [if_neg h2, if_neg h2, if_neg (by rw [h]; exact h2)]
    · rw [if_pos (by simpa using h), gGet_cons, ih, gGet_cons]
      by_cases h2 : x.1 = k
      · have : q ≠ k := fun e => h (h2.trans e.symm)
        simp [h2, this]
      · simp [h2]
theorem gGet_ins {α : Type} (k q : List UInt8) (v : α) : ∀ m : KL α, (∀ y ∈ m, y.1 ≠ q) → gGet k (gIns (q, v) m) = if q = k then some v else gGet k m
  | [], _ => by rw [gIns, gGet_cons]
  | x :: m, h => by
    rw [gIns]
    split
    · rw [gGet_cons]
    · have hx := h x (by simp)
      rw [gGet_cons, gGet_ins k q v m (fun y hy => h y (by simp [hy])), gGet_cons]
      by_cases h2 : x.1 = k
      · have : q ≠ k := fun e => hx (h2.trans e.symm)
        simp [h2, this]
      · simp [h2]
theorem gGet_put' {α : Type} (k q : List UInt8) (v : α) (m : KL α) : gGet k (gPut q v m) = if q = k then some v else gGet k m := by
  unfold gPut
  rw [gGet_ins k q v _ (fun y hy => (gDel_mem hy).2), gGet_del]
  by_cases h : q = k <;> simp [h]
theorem gGet_mpPut (k : List UInt8) (p : PutM) (m : MpL) : gGet k (mpPut m p) = if p.key = k then (if p.gone = true then none else some p.blob) else gGet k m := by
  unfold mpPut
  split
  · rename_i hg; rw [gGet_del]
  · rename_i hg; rw [gGet_put']
def lookF (k : List UInt8) (a : Option (List UInt8)) (p : PutM) : Option (List UInt8) := if p.key = k then (if p.gone = true then none else some p.blob) else a
theorem gGet_mpPuts (k : List UInt8) : ∀ (l : List PutM) (m : MpL), gGet k (mpPuts m l) = l.foldl (lookF k) (gGet k m)
  | [], _ => rfl
  | p :: l, m => by
    show gGet k (mpPuts (mpPut m p) l) = _
    rw [gGet_mpPuts k l, gGet_mpPut]; rfl
theorem look_away (k : List UInt8) : ∀ (l : List PutM) (a : Option (List UInt8)), (∀ p ∈ l, p.key ≠ k) → l.foldl (lookF k) a = a
  | [], _, _ => rfl
  | p :: l, a, h => by
    rw [List.foldl_cons, show lookF k a p = a from if_neg (h p (by simp)), look_away k l a (fun q hq => h q (by simp [hq]))]
theorem look_same (k : List UInt8) : ∀ (l : List PutM) (a b : Option (List UInt8)), (∃ p ∈ l, p.key = k) → l.foldl (lookF k) a = l.foldl (lookF k) b
  | [], _, _, h => by obtain ⟨p, hp, _⟩ := h; simp at hp
  | p :: l, a, b, h => by
    rw [List.foldl_cons, List.foldl_cons]
    by_cases hp : p.key = k
    · have e : ∀ x, lookF k x p = lookF k none p := fun x => by unfold lookF; rw [if_pos hp, if_pos hp]
      rw [e a, e b]
    · obtain ⟨q, hq, hk⟩ := h
      rcases List.mem_cons.1 hq with rfl | hq
      · exact absurd hk hp
      · exact look_same k l _ _ ⟨q, hq, hk⟩
/-- The same again changes nothing. -/
theorem mpPuts_twice {m : MpL} (h : RisingK m) (l : List PutM) : mpPuts (mpPuts m l) l = mpPuts m l := by
  refine rising_ext (mpPuts_rising l (mpPuts_rising l h)) (mpPuts_rising l h) (fun k => ?_)
  rw [gGet_mpPuts, gGet_mpPuts]
  by_cases hk : ∃ p ∈ l, p.key = k
  · exact look_same k l _ _ hk
  · rw [look_away k l _ (fun p hp e => hk ⟨p, hp, e⟩)]
/-- All that was put is gone. -/
def goneOf (l : List PutM) : List PutM := l.map fun p => ⟨p.key, [], true⟩
theorem look_gone (k : List UInt8) : ∀ (l : List PutM) (a : Option (List UInt8)), (∀ p ∈ l, p.gone = true) → (a = none ∨ ∃ p ∈ l, p.key = k) → l.foldl (lookF k) a = none
  | [], a, _, h => by
    rcases h with h | ⟨p, hp, _⟩
    · exact h
    · simp at hp
  | p :: l, a, hg, h => by
    rw [List.foldl_cons]
    refine look_gone k l _ (fun q hq => hg q (by simp [hq])) ?_
    by_cases hp : p.key = k
    · left; unfold lookF; rw [if_pos hp, if_pos (hg p (by simp))]
    · rcases h with rfl | ⟨q, hq, hk⟩
      · left; unfold lookF; rw [if_neg hp]
      · rcases List.mem_cons.1 hq with rfl | hq
        · exact absurd hk hp
        · exact .inr ⟨q, hq, hk⟩
theorem gone_all (l : List PutM) (k : List UInt8) : mpPuts (mpPuts [] l) (goneOf l ++ [⟨k, [], true⟩]) = [] := by
  refine rising_ext (mpPuts_rising _ (mpPuts_rising l (by simp [RisingK, Rising]))) (by simp [RisingK, Rising]) (fun q => ?_)
  rw [gGet_mpPuts, gGet_mpPuts]
  refine (look_gone q _ _ (fun p hp => ?_) ?_).trans rfl
  · rcases List.mem_append.1 hp with hp | hp
    · obtain ⟨p', _, rfl⟩ := List.mem_map.1 hp; rfl
    · rw [List.mem_singleton] at hp; subst hp; rfl
  · by_cases hk : ∃ p ∈ l, p.key = q
    · obtain ⟨p, hp, hk⟩ := hk
      exact .inr ⟨⟨p.key, [], true⟩, List.mem_append_left _ (List.mem_map.2 ⟨p, hp, rfl⟩), hk⟩
    · left
      rw [look_away q l _ (fun p hp e => hk ⟨p, hp, e⟩)]; rfl
theorem gone_snoc (l : List PutM) (p : PutM) : goneOf (l ++ [p]) = goneOf l ++ [⟨p.key, [], true⟩] := by simp [goneOf]
theorem gone_keys (l : List PutM) : (goneOf l).map (·.key) = l.map (·.key) := by simp [goneOf]
/-- Puts that may be may go. -/
theorem gone_may : ∀ (l : List PutM) (had : List (List UInt8)), mayGo had l = true → mayGo had (goneOf l) = true
  | [], _, _ => rfl
  | p :: l, had, h => by
    obtain ⟨h1, h2, h3, _, h5⟩ := mayGo_cons h
    show mayGo had (⟨p.key, [], true⟩ :: goneOf l) = true
    rw [mayGo, if_neg]
    · exact gone_may l _ h5
    · simp only [not_or]
      exact ⟨h1, by omega, by simpa using h3, by simp⟩
def kNever : List UInt8 := [110, 101, 118, 101, 114]
theorem gone_never {l : List PutM} (h : mayF l = true) (hk : ∀ p ∈ l, p.key ∈ keys5) : mayF (goneOf l ++ [⟨kNever, [], true⟩]) = true := by
  rw [mayF_snoc, show mayF (goneOf l) = true from gone_may l [] h, gone_keys, Bool.true_and]
  have : (l.map (·.key)).contains kNever = false := by
    simp only [List.contains_eq_mem, decide_eq_false_iff_not, List.mem_map, not_exists, not_and]
    intro p hp e
    have := hk p hp
    rw [e] at this
    revert this; decide
  rw [this]
  rfl
end Go.Proofs.Obj

namespace Go.Proofs.Obj
open Go Go.RowKit Go.Shelf

/-- A store is left alone by what another one writes. -/
theorem LiveM.away {w w' : World} {L1 L2 : DL} {s t tu1 tu2 : Nat} {D1 D2 : Dk} {i1 i2 : List Nat} {t1 t2 : Tab} {m1 m2 : MpL} (h2 : LiveM w L2 t D2 tu2 i2 t2 m2) (h1 : LiveM w L1 s D1 tu1 i1 t1 m1) (ne : t ≠ s) (dj : ∀ k, L2.fp k → ¬ L1.fp k) (k : Chg (fun k => k = s ∨ L1.fp k) w w') : LiveM w' L2 t D2 tu2 i2 t2 m2 := by
  obtain ⟨_, _, _, hsb, _⟩ := h1.store
  refine ⟨h2.disk.chg k (fun b hb e => e.elim (fun e => h2.disk.ne_of hsb (by decide) (by decide) (by decide) (e ▸ hb)) (dj b hb)), h2.dg, h2.store.chg k ?_ (fun b l hm e => e.elim (fun e => hm.ne hsb e) (fun e => h1.disk.fp_map hm e rfl)) (fun b c hb e => e.elim (fun e => hb.type_ne hsb (by decide) e) (fun e => h1.disk.ne_of hb (by decide) (by decide) (by decide) e))⟩
  obtain ⟨_, _, _, htb, _⟩ := h2.store
  exact fun e => e.elim ne (fun e => h1.disk.ne_of htb (by decide) (by decide) (by decide) e)

/-- Two stores on two disks; what is between M and N is theirs not. -/
structure Two (w0 : World) (M N : Nat) (wr : World) (L1 L2 : DL) (D1 D2 : Dk) (s t tu1 tu2 : Nat) (i1 i2 : List Nat) (t1 t2 : Tab) (m1 m2 : MpL) : Prop where
  l1 : LiveM wr L1 s D1 tu1 i1 t1 m1
  l2 : LiveM wr L2 t D2 tu2 i2 t2 m2
  f1 : ∀ k, L1.fp k → w0.heap.size ≤ k ∧ (k < M ∨ N ≤ k)
  f2 : ∀ k, L2.fp k → w0.heap.size ≤ k ∧ (k < M ∨ N ≤ k)
  dj : ∀ k, L1.fp k → ¬ L2.fp k
  s1 : w0.heap.size ≤ s ∧ s < M
  s2 : w0.heap.size ≤ t ∧ t < M
  ne : s ≠ t
  mn : N ≤ wr.heap.size
  same : Same w0 wr
section
variable {w0 wr w' : World} {M N : Nat} {L1 L2 L1' : DL} {D1 D2 D1' : Dk} {s t tu1 tu2 tu1' : Nat} {i1 i2 i1' : List Nat} {t1 t2 t1' : Tab} {m1 m2 m1' : MpL}
theorem Two.symm (h : Two w0 M N wr L1 L2 D1 D2 s t tu1 tu2 i1 i2 t1 t2 m1 m2) : Two w0 M N wr L2 L1 D2 D1 t s tu2 tu1 i2 i1 t2 t1 m2 m1 :=
  ⟨h.l2, h.l1, h.f2, h.f1, fun k h2 h1 => h.dj k h1 h2, h.s2, h.s1, h.ne.symm, h.mn, h.same⟩
theorem Two.then_same (h : Two w0 M N wr L1 L2 D1 D2 s t tu1 tu2 i1 i2 t1 t2 m1 m2) (k : Same wr w') : Two w0 M N w' L1 L2 D1 D2 s t tu1 tu2 i1 i2 t1 t2 m1 m2 :=
  ⟨h.l1.same k, h.l2.same k, h.f1, h.f2, h.dj, h.s1, h.s2, h.ne, Nat.le_trans h.mn k.size, h.same.trans k⟩
theorem Two.commit (h : Two w0 M N wr L1 L2 D1 D2 s t tu1 tu2 i1 i2 t1 t2 m1 m2) (hL : LiveM w' L1' s D1' tu1' i1' t1' m1') (hf : ∀ k, L1'.fp k → L1.fp k ∨ wr.heap.size ≤ k) (k : Chg (fun k => k = s ∨ L1.fp k) wr w') :
    Two w0 M N w' L1' L2 D1' D2 s t tu1' tu2 i1' i2 t1' t2 m1' m2 ∧ Chg (fun k => k < M ∨ N ≤ k) wr w' := by
  have hs := h.same.size
  refine ⟨⟨hL, h.l2.away h.l1 h.ne.symm (fun k h2 h1 => h.dj k h1 h2) k, fun j hj => (hf j hj).elim (h.f1 j) (fun e => ⟨by omega, .inr (Nat.le_trans h.mn e)⟩), h.f2, fun j hj h2 => (hf j hj).elim (fun e => h.dj j e h2) (fun e => by have := h.l2.disk.fp_lt h2; omega), h.s1, h.s2, h.ne, Nat.le_trans h.mn k.size, ?_⟩, ?_⟩
  · exact h.same.trans' k (fun _ _ h => h) (fun j hj e => e.elim (fun e => by have := h.s1; omega) (fun e => by have := h.f1 j e; omega))
  · exact k.mono (fun j hj e => e.elim (fun e => .inl (by have := h.s1; omega)) (fun e => (h.f1 j e).2))
end

/-- The puts and the maps of both. -/
structure Four (M N q15 q16 : Nat) (W : World) (vp vq a1 a2 c1 c2 : Value) (p q : List PutM) (m n : MpL) : Prop where
  p : PutsAt W vp p
  pf : RowFrom (fun b => M ≤ b ∧ b < N) vp
  q : PutsAt W vq q
  qf : RowFrom (fun b => M ≤ b ∧ b < N) vq
  m : MapV W (.agg #[a1, a2]) m
  mf : AggFrom (fun b => M ≤ b ∧ b < N) (.agg #[a1, a2])
  n : MapV W (.agg #[c1, c2]) n
  nf : AggFrom (fun b => M ≤ b ∧ b < N) (.agg #[c1, c2])
  b15 : Blk W q15 32 [a1, a2]
  b16 : Blk W q16 32 [c1, c2]
  h15 : M ≤ q15 ∧ q15 < N
  h16 : M ≤ q16 ∧ q16 < N
theorem Four.chg {M N q15 q16 : Nat} {W W' : World} {vp vq a1 a2 c1 c2 : Value} {p q : List PutM} {m n : MpL} (h : Four M N q15 q16 W vp vq a1 a2 c1 c2 p q m n) (k : Chg (fun k => k < M ∨ N ≤ k) W W') : Four M N q15 q16 W' vp vq a1 a2 c1 c2 p q m n :=
  have hn : ∀ b, (M ≤ b ∧ b < N) → ¬ (b < M ∨ N ≤ b) := fun b hb => by omega
  ⟨h.p.chg h.pf k hn, h.pf, h.q.chg h.qf k hn, h.qf, h.m.chg h.mf k hn, h.mf, h.n.chg h.nf k hn, h.nf, h.b15.chg k (hn _ h.h15), h.b16.chg k (hn _ h.h16), h.h15, h.h16⟩
theorem Four.same {M N q15 q16 : Nat} {W W' : World} {vp vq a1 a2 c1 c2 : Value} {p q : List PutM} {m n : MpL} (h : Four M N q15 q16 W vp vq a1 a2 c1 c2 p q m n) (k : Same W W') : Four M N q15 q16 W' vp vq a1 a2 c1 c2 p q m n := h.chg (Chg.of_same k)

theorem nil_map (W : World) : MapV W (.agg #[.slice none 0 0, .slice none 0 0]) [] := ⟨_, _, rfl, ⟨none, 0, rfl, .inl rfl⟩, ⟨none, 0, rfl, .inl rfl⟩⟩
theorem nil_from (P : Nat → Prop) : AggFrom P (.agg #[.slice none 0 0, .slice none 0 0]) := ⟨none, 0, 0, none, 0, 0, rfl, fun _ e => (by cases e), fun _ e => (by cases e)⟩

set_option maxRecDepth 100000 in
set_option maxHeartbeats 4000000 in
theorem two_walk {w : World} {v1 v2 : Value} {ls ms : List UInt8} (h1 : BytesAt w v1 ls) (hl1 : ls.length ≤ 140737488355328) (h2 : BytesAt w v2 ms) (hl2 : ms.length ≤ 140737488355328) :
    Calls Tryz.prog 5 #[v1, v2] w fun e w' => e = .returned (.bool true) ∧ Same w w' := by
  go_enter Tryz.func5, Tryz.ntmps5
  go_wp2_with fail
  refine (new_live 700 (by decide) (by decide)).mono ?_
  rintro e w1 ⟨L1, rfl, k1, hf1, hD1⟩
  go_wp2_with fail
  refine (new_live 700 (by decide) (by decide)).mono ?_
  rintro e w2 ⟨L2, rfl, k2, hf2, hD2⟩
  go_wp2_with fail
  refine (open_live (hD1.same k2) (new_good (by decide) (by decide))).mono ?_
  rintro e w3 ⟨s, rfl, hS, hs3, k3⟩
  go_wp2_with fail
  refine (open_live (hD2.same k3) (new_good (by decide) (by decide))).mono ?_
  rintro e w4 ⟨t, rfl, hT, ht4, k4⟩
  have hlt1 : ∀ k, L1.fp k → k < w1.heap.size := fun k hk => hD1.fp_lt hk
  have hlt2 : ∀ k, L2.fp k → k < w2.heap.size := fun k hk => hD2.fp_lt hk
  have z1 := k1.size
  have z2 := k2.size
  have z3 := k3.size
  have z4 := k4.size
  have zs := hS.s_lt
  have zt := hT.s_lt
  have k04 := ((k1.trans k2).trans k3).trans k4
  have hS := hS.same k4
  clear hD1 hD2 k1 k2 k3 k4
  go_wp2_with (first | (go_at_call 14; refine (err_spec _ _).mono ?_; rintro e w9 ⟨rfl, rfl⟩) | fail)
  refine (puts_spec (h1.same k04) hl1).mono ?_
  rintro e w5 ⟨vp, p, rfl, hp, hpf, hp4, hpm, hpz, k5⟩
  go_wp2_with fail
  refine (puts_spec (h2.same (k04.trans k5)) hl2).mono ?_
  rintro e w6 ⟨vq, q, rfl, hq, hqf, hq4, hqm, hqz, k6⟩
  have hp := hp.same k6
  have z5 := k5.size
  have z6 := k6.size
  go_wp2_with fail
  obtain ⟨w7, hw7, hb15, hb16, k7, z7⟩ : ∃ w7 : World, (w6.alloc (.cells #[.slice none 0 0, .slice none 0 0] 32)).alloc (.cells #[.slice none 0 0, .slice none 0 0] 32) = w7 ∧ Blk w7 w6.heap.size 32 [.slice none 0 0, .slice none 0 0] ∧ Blk w7 (w6.heap.size + 1) 32 [.slice none 0 0, .slice none 0 0] ∧ Same w6 w7 ∧ w7.heap.size = w6.heap.size + 1 + 1 := by
    have h3 := Blk.new (w6.alloc (.cells #[.slice none 0 0, .slice none 0 0] 32)) 32 [.slice none 0 0, .slice none 0 0]
    simp only [World.size_alloc] at h3
    exact ⟨_, rfl, (Blk.new w6 32 _).alloc _, h3, ((Chg.refl _ w6).alloc _).alloc _, by simp⟩
  rw [hw7]
  clear hw7
  have hri0 : RisingK ([] : MpL) := by simp [RisingK, Rising]
  refine (mapCommit_spec (l := p) (nil_map w7) (hp.same k7) hri0 (nil_from (fun _ => False)) (by simp; omega) (by simp) (fun x hx => (hpz x hx).1)).mono ?_
  rintro e w8 ⟨v15, rfl, hm, hmf, k8⟩
  obtain ⟨A1, c1, A2, c2, rfl⟩ := hm.form
  have z8 := k8.size
  have hb15 := hb15.same k8
  have hb16 := hb16.same k8
  obtain ⟨y0, y1, y2, y3, y4, y5⟩ := hb15.st2
  have kp9 := Chg.put2 w8 w6.heap.size (.slice A1 (mpPuts [] p).length c1) (.slice A2 (mpPuts [] p).length c2)
  have hm9 := hm.chg1 hb15 kp9
  have hb15' := hb15.put2 (.slice A1 (mpPuts [] p).length c1) (.slice A2 (mpPuts [] p).length c2)
  have hb16' := hb16.chg kp9 (by omega)
  have hp9 := (hp.same (k7.trans k8)).chg hpf kp9 (fun b hb => by omega)
  have hq9 := (hq.same (k7.trans k8)).chg hqf kp9 (fun b hb => by omega)
  obtain ⟨x0, x1, _⟩ := hb16'.st2
  go_wp2_with fail
  clear y0 y1 y2 y3 y4 y5 x0 x1
  generalize (w8.setCell ⟨w6.heap.size, 0, none⟩ (.slice A1 (mpPuts [] p).length c1)).setCell ⟨w6.heap.size, 1, none⟩ (.slice A2 (mpPuts [] p).length c2) = w9 at *
  have z9 := kp9.size
  refine (mapCommit_spec (l := q) (nil_map w9) hq9 hri0 (nil_from (fun _ => False)) (by simp; omega) (by simp) (fun x hx => (hqz x hx).1)).mono ?_
  rintro e w10 ⟨v16, rfl, hn, hnf, k10⟩
  obtain ⟨B1, d1, B2, d2, rfl⟩ := hn.form
  have z10 := k10.size
  have hb15 := hb15'.same k10
  have hb16 := hb16'.same k10
  obtain ⟨y0, y1, y2, y3, y4, y5⟩ := hb16.st2
  have kp11 := Chg.put2 w10 (w6.heap.size + 1) (.slice B1 (mpPuts [] q).length d1) (.slice B2 (mpPuts [] q).length d2)
  have hF : Four w4.heap.size w10.heap.size w6.heap.size (w6.heap.size + 1) ((w10.setCell ⟨w6.heap.size + 1, 0, none⟩ (.slice B1 (mpPuts [] q).length d1)).setCell ⟨w6.heap.size + 1, 1, none⟩ (.slice B2 (mpPuts [] q).length d2)) vp vq (.slice A1 (mpPuts [] p).length c1) (.slice A2 (mpPuts [] p).length c2) (.slice B1 (mpPuts [] q).length d1) (.slice B2 (mpPuts [] q).length d2) p q (mpPuts [] p) (mpPuts [] q) :=
    ⟨(hp9.same k10).chg hpf kp11 (fun b hb => by omega), hpf.mono (fun b hb => by omega), (hq9.same k10).chg hqf kp11 (fun b hb => by omega), hqf.mono (fun b hb => by omega), (hm9.same k10).chg1 hb16 kp11, hmf.mono (fun b hb => hb.elim (fun h => h.elim) (fun h => by omega)), hn.chg1 hb16 kp11, hnf.mono (fun b hb => hb.elim (fun h => h.elim) (fun h => by omega)), hb15.chg kp11 (by omega), hb16.put2 _ _, by omega, by omega⟩
  have k411 : Chg (fun k => w6.heap.size ≤ k) w4 ((w10.setCell ⟨w6.heap.size + 1, 0, none⟩ (.slice B1 (mpPuts [] q).length d1)).setCell ⟨w6.heap.size + 1, 1, none⟩ (.slice B2 (mpPuts [] q).length d2)) :=
    ((((((Chg.of_same k5).trans (Chg.of_same k6)).trans (Chg.of_same k7)).trans (Chg.of_same k8)).trans' kp9 (fun _ _ h => h) (fun j hj e => by omega)).trans (Chg.of_same k10)).trans' kp11 (fun _ _ h => h) (fun j hj e => by omega)
  have k411' := k411.trans' (U := fun _ => False) (Chg.refl (fun _ => False) _) (fun j hj e => by omega) (fun _ _ h => h)
  obtain ⟨D1, hDe, hn1, hu1⟩ : ∃ D : Dk, (⟨List.replicate 700 zero64, [], false, -1⟩ : Dk) = D ∧ D.firm.length = 700 ∧ D.fuse = -1 := ⟨_, rfl, by simp, rfl⟩
  rw [hDe] at hS hT
  have hW : Two w w4.heap.size w10.heap.size ((w10.setCell ⟨w6.heap.size + 1, 0, none⟩ (.slice B1 (mpPuts [] q).length d1)).setCell ⟨w6.heap.size + 1, 1, none⟩ (.slice B2 (mpPuts [] q).length d2)) L1 L2 D1 D1 s t 0 0 [] [] [] [] [] [] :=
    ⟨hS.same k411', hT.same k411', fun k hk => ⟨hf1 k hk, .inl (by have := hlt1 k hk; omega)⟩, fun k hk => ⟨by have := hf2 k hk; omega, .inl (by have := hlt2 k hk; omega)⟩, fun k h1 h2 => by have := hlt1 k h1; have := hf2 k h2; omega, by omega, by omega, by omega, kp11.size, k04.trans k411'⟩
  have hM4 : w.heap.size ≤ w4.heap.size := k04.size
  have hpm' := hpm
  have hpl := mpPuts_small p (m := []) (n := 4) (by simp; omega) (by simp) (fun x hx => (hpz x hx).1)
  have hql := mpPuts_small q (m := []) (n := 4) (by simp; omega) (by simp) (fun x hx => (hqz x hx).1)
  have htw := mpPuts_twice hri0 p
  have hri1 := mpPuts_rising p hri0
  have HP := Lib.hid (⟨hpm, hpz⟩ : mayF p = true ∧ ∀ x ∈ p, (x.key.length ≤ 300 ∧ x.blob.length ≤ 131072) ∧ x.key ∈ keys5)
  have HQ := Lib.hid hqm
  have HT := Lib.hid htw
  have Hgone := Lib.hid (gone_all p kNever)
  have HD := Lib.hid (⟨hn1, hu1⟩ : D1.firm.length = 700 ∧ D1.fuse = -1)
  have hn0 : needOf ([] : MpL) = 0 := rfl
  clear hpm hpm' hqm hpz hqz htw hri0 hDe hn1 hu1 hS hT k411 k411' kp9 kp11 hb15 hb16 hb15' hb16' hm hmf hn hnf hp hp9 hq hq9 hpf hqf hm9 k5 k6 k7 k8 k10 hlt1 hlt2 hf1 hf2 k04 h1 h2
  have hz : ∀ W, W = (w10.setCell ⟨w6.heap.size + 1, 0, none⟩ (.slice B1 (mpPuts [] q).length d1)).setCell ⟨w6.heap.size + 1, 1, none⟩ (.slice B2 (mpPuts [] q).length d2) → True := fun _ _ => trivial
  clear hz
  generalize hm0 : mpPuts [] p = m0 at *
  generalize hm1 : mpPuts [] q = m1 at *
  have Hm0 := Lib.hid hm0
  have Hm1 := Lib.hid hm1
  clear hm0 hm1
  have hfu1 := full_spec hW.l1.disk hF.m hF.m (by omega) (by omega) hpl.2 hpl.2
  rw [HD.out.1] at hfu1
  have hfu2 := fun W (k : Same _ W) => full_spec (hW.l2.disk.same k) (hF.n.same k) (hF.n.same k) (by omega) (by omega) hql.2 hql.2
  rw [HD.out.1] at hfu2
  obtain ⟨r0, r1, _⟩ := hF.b15.st2
  by_cases hfa : 700 < 3 * (needOf m0 + needOf m0) + 40
  · rw [decide_eq_true hfa] at hfu1
    clear hfu2
    go_wp2_with (first
      | (go_at_call 20; refine hfu1.mono ?_; rintro e w12 ⟨rfl, k12⟩)
      | (go_at_call 12; refine (awake_spec _).mono ?_; rintro e w13 ⟨rfl, k13⟩))
    go_ret
    exact ⟨rfl, (hW.same.trans k12).trans k13⟩
  · rw [decide_eq_false hfa] at hfu1
    by_cases hfb : 700 < 3 * (needOf m1 + needOf m1) + 40
    · rw [decide_eq_true hfb] at hfu2
      go_wp2_with fail
      refine hfu1.mono ?_
      rintro e w12 ⟨rfl, k12⟩
      have hF2 := hF.same k12
      obtain ⟨x0, x1, _⟩ := hF2.b16.st2
      go_wp2_with fail
      refine (hfu2 _ k12).mono ?_
      rintro e w13 ⟨rfl, k13⟩
      go_wp2_with (first
        | (go_at_call 12; refine (awake_spec _).mono ?_; rintro e w14 ⟨rfl, k14⟩))
      go_ret
      exact ⟨rfl, ((hW.same.trans k12).trans k13).trans k14⟩
    · rw [decide_eq_false hfb] at hfu2
      go_wp2_with fail
      refine hfu1.mono ?_
      rintro e w12 ⟨rfl, k12⟩
      have hF2 := hF.same k12
      obtain ⟨x0, x1, _⟩ := hF2.b16.st2
      go_wp2_with fail
      refine (hfu2 _ k12).mono ?_
      rintro e w13 ⟨rfl, k13⟩
      have hF := hF2.same k13
      have hW := hW.then_same (k12.trans k13)
      clear hF2 x0 x1 r0 r1 hfu1 hfu2 k12 k13
      have hc1 := commit_sure hW.l1 hF.p (by omega) HP.out.1 HD.out.2 (by rw [Hm0.out, HD.out.1, hn0]; omega) (by omega)
      rw [Hm0.out] at hc1
      go_wp2_with fail
      refine hc1.mono ?_
      rintro e w14 ⟨La, Da, ia, ta, rfl, hda, _, hfa', ka, hLa, hna, hua⟩
      obtain ⟨hW, kc⟩ := hW.commit hLa hfa' ka
      have hF := hF.chg kc
      clear hc1 ka kc hfa' hLa
      have hc2 := commit_sure hW.l2 hF.q (by omega) HQ.out HD.out.2 (by rw [Hm1.out, HD.out.1, hn0]; omega) (by omega)
      rw [Hm1.out] at hc2
      go_wp2_with (first | (go_at_call 14; refine (err_spec _ _).mono ?_; rintro e w9 ⟨rfl, rfl⟩) | fail)
      refine hc2.mono ?_
      rintro e w15 ⟨Lb, Db, ib, tb, rfl, hdb, _, hfb', kb, hLb, hnb, hub⟩
      obtain ⟨hW2, kc⟩ := hW.symm.commit hLb hfb' kb
      have hW := hW2.symm
      have hF := hF.chg kc
      clear hc2 kb kc hfb' hLb hW2
      have hc3 := commit_sure hW.l1 hF.p (by omega) HP.out.1 hua (by rw [HT.out, hna, HD.out.1]; omega) (by omega)
      rw [HT.out] at hc3
      go_wp2_with (first | (go_at_call 14; refine (err_spec _ _).mono ?_; rintro e w9 ⟨rfl, rfl⟩) | fail)
      refine hc3.mono ?_
      rintro e w16 ⟨Lc, Dc, ic, tc, rfl, hdc, _, hfc', kc, hLc, hnc, huc⟩
      obtain ⟨hW, kc⟩ := hW.commit hLc hfc' kc
      have hF := hF.chg kc
      clear hc3 kc hfc' hLc
      have his1 := is_spec hW.l1 hF.m (by omega)
      rw [decide_eq_true rfl] at his1
      obtain ⟨r0, r1, _⟩ := hF.b15.st2
      go_wp2_with (first | (go_at_call 14; refine (err_spec _ _).mono ?_; rintro e w9 ⟨rfl, rfl⟩) | fail)
      refine his1.mono ?_
      rintro e w17 ⟨rfl, k17⟩
      have hW := hW.then_same k17
      have hF := hF.same k17
      have his2 := is_spec hW.l2 hF.n (by omega)
      rw [decide_eq_true rfl] at his2
      clear r0 r1 his1 k17
      obtain ⟨r0, r1, _⟩ := hF.b16.st2
      go_wp2_with fail
      refine his2.mono ?_
      rintro e w18 ⟨rfl, k18⟩
      have hW := hW.then_same k18
      have hF := hF.same k18
      clear r0 r1 his2 k18
      go_wp2
      generalize hN : w10.heap.size = NN at *
      clear hN
      obtain ⟨w19, hw19⟩ : ∃ w19 : World, w18 = w19 := ⟨_, rfl⟩
      subst hw19
      go_loopw [17, 18] (fun g i wr => ∃ (j : Nat) (A3 : Option Addr) (c3 : Nat), j ≤ p.length ∧ g = .slice A3 j c3 ∧ i = .int .i64 j ∧ wr.ownsRow w18.heap.size 43 3 (.slice A3 j c3) j (putsCells (goneOf (p.take j))) ∧ Same w18 wr) (fun _ i _ => p.length - (intOf i).toNat)
      case atStart => exact ⟨0, none, 0, Nat.zero_le _, rfl, rfl, own_nil _ _ _ _, .refl _ _⟩
      case round =>
        obtain ⟨j, A3, c3, hj, rfl, rfl, hrow, hch⟩ := hrel
        obtain ⟨Ap, cp, hvp, hrp⟩ := (hF.same hch).p
        subst hvp
        by_cases hjt : j < p.length
        · obtain ⟨bb, oo, rfl, hrr⟩ := hrp.at_ (by
            have := (List.getElem?_eq_some_iff.1 (putsCells_at p j hjt).1).1
            omega)
          have x0 := hrr _ _ (putsCells_at p j hjt).1
          have hsz := hch.size
          have e5 : putsCells (goneOf (p.take j)) ++ [.string (S p[j].key), .string (S []), .bool true] = putsCells (goneOf (p.take (j + 1))) := by
            rw [← List.take_append_getElem hjt, gone_snoc]; simp [putsCells, putCells1]
          have E5 := Lib.hid e5
          clear e5 hrr
          generalize p[j].key = key at *
          go_wp2_with (at_builtin; refine app_own rfl (.tmp 118) (.tmp 125) 36 43 _ 3 40 rfl Tryz.underlying36 Tryz.info43 rfl (by decide) (by decide) w18.heap.size (.slice A3 j c3) j (putsCells (goneOf (p.take j))) [.string (S key), .string (S []), .bool true] rfl rfl rfl ?c1 hrow hch.size ?c3 ?c4)
          case c1 => intro u hu; simp at hu; rcases hu with rfl | rfl | rfl <;> rfl
          case c3 => omega
          case c4 =>
            intro g cap' W3 hrow3 k3 hg3
            rw [E5.out] at hrow3
            have hch3 : Same w18 W3 := hch.trans' k3 (fun _ _ h => h) (fun j hj e => absurd hj (Nat.not_lt.2 (own_base hrow e)))
            go_wp2
            go_roundw
            · exact ⟨j + 1, some ⟨g, 0, none⟩, cap', by omega, rfl, by simp, hrow3, hch3⟩
            · simp only [intOf]; omega
        · obtain rfl : j = p.length := by omega
          rw [List.take_length] at hrow
          have hmg := gone_never HP.out.1 (fun x hx => (HP.out.2 x hx).2)
          have Hmg := Lib.hid hmg
          clear hmg hrp
          have hsz := hch.size
          go_wp2_with (at_builtin; refine app_own rfl (.tmp 128) (.tmp 130) 36 43 _ 3 40 rfl Tryz.underlying36 Tryz.info43 rfl (by decide) (by decide) w18.heap.size (.slice A3 p.length c3) p.length (putsCells (goneOf p)) [.string (S kNever), .string (S []), .bool true] rfl rfl rfl ?c1 hrow hch.size ?c3 ?c4)
          case c1 => intro u hu; simp at hu; rcases hu with rfl | rfl | rfl <;> rfl
          case c3 => omega
          case c4 =>
            intro g cap' W3 hrow3 k3 hg3
            have hch3 : Same w18 W3 := hch.trans' k3 (fun _ _ h => h) (fun j hj e => absurd hj (Nat.not_lt.2 (own_base hrow e)))
            have hW3 := hW.then_same hch3
            have hF3 := hF.same hch3
            have hpn : PutsAt W3 (.slice (some ⟨g, 0, none⟩) (p.length + 1) cap') (goneOf p ++ [⟨kNever, [], true⟩]) := by
              have e6 : (goneOf p ++ [(⟨kNever, [], true⟩ : PutM)]).length = p.length + 1 := by simp [goneOf]
              have e7 : putsCells (goneOf p) ++ [.string (S kNever), .string (S []), .bool true] = putsCells (goneOf p ++ [⟨kNever, [], true⟩]) := by simp [putsCells, putCells1]
              refine ⟨_, cap', by rw [e6], .inr ⟨g, 0, rfl, ?_⟩⟩
              rw [← e7]
              exact own_rd hrow3
            have hc4 := commit_sure hW3.l1 hpn (by simp [goneOf]; omega) Hmg.out huc (by rw [Hgone.out, hn0, hnc, hna, HD.out.1]; omega) (by omega)
            rw [Hgone.out] at hc4
            clear hrow3 k3 hg3 hrow hch hpn hW hF
            go_wp2_with fail
            refine hc4.mono ?_
            rintro e w20 ⟨Ld, Dd, id, td, rfl, hdd, _, hfd', kd, hLd, hnd, hud⟩
            obtain ⟨hW, kc⟩ := hW3.commit hLd hfd' kd
            have hF := hF3.chg kc
            clear hc4 kc kd hfd' hLd hW3 hF3
            have hg := get_live hW.l1 [97] (by decide)
            rw [show getF ([] : MpL) [97] = ([], 2) from rfl] at hg
            go_wp2_with fail
            refine hg.mono ?_
            rintro e w21 ⟨rfl, k21⟩
            have hW := hW.then_same k21
            have hF := hF.same k21
            have hk := keys_live hW.l1
            clear hg k21
            go_wp2_with (first | (go_at_call 14; refine (err_spec _ _).mono ?_; rintro e w9 ⟨rfl, rfl⟩) | fail)
            refine hk.mono ?_
            rintro e w22 ⟨v22, rfl, hrow22, k22⟩
            obtain ⟨A22, c22, rfl⟩ := own_form hrow22
            have hW := hW.then_same k22
            have hF := hF.same k22
            have his2 := is_spec hW.l2 hF.n (by omega)
            rw [decide_eq_true rfl] at his2
            obtain ⟨r0, r1, _⟩ := hF.b16.st2
            clear hk k22 hrow22
            go_wp2_with fail
            refine his2.mono ?_
            rintro e w23 ⟨rfl, k23⟩
            have hk := hW.same.trans k23
            clear his2 r0 r1 hF hW
            go_wp2_with (first
              | (go_at_call 12; refine (awake_spec _).mono ?_; rintro e w24 ⟨rfl, k24⟩))
            go_ret
            exact ⟨rfl, hk.trans k24⟩
end Go.Proofs.Obj

namespace Go.Proofs.YtiiinmleiigckaaGreatDoor
open Go.ChangeShapes Go.WideShapes Go.ChangeAt Go.RowKit Go.Proofs.Obj

set_option maxRecDepth 100000 in
/-- WHAT THE WALK GIVES, FOR EVERY ARGUMENT. -/
theorem objectsTwo_contract (H : Type) (enc : TypeId × Value → H) (W : World) (base : Nat) (args : Array Value) (ds gs : List (DataW H)) (before : List MemPlace)
    (hval : ∀ (j : Nat) t v, Tryz.f5.params[j]? = some t → args[j]? = some v → Value.okWide Tryz.prog W .any base t v)
    (hW : DataW.Whole enc Tryz.prog Tryz.f5.params.toList Rows.objectsTwoSpec.vars false W args.toList ds gs before)
    (hz : (DataW.weightsEach Tryz.prog (Tryz.f5.params.toList ++ (OpenSpec.ofChange Rows.objectsTwoSpec).bare.plain.varTypes Tryz.prog) (ds ++ gs)).all (· ≤ reachBytes) = true) :
    Calls Tryz.prog 5 args W fun e W' => ∃ v, e = .returned v ∧ Rows.objectsTwoSpec.post enc Tryz.prog Tryz.f5 false true false false W args v W' := by
  have hW' := hW
  obtain ⟨p, q, hA0, hV, rfl, hfz, hnd⟩ := hW
  have hA : DataW.TrodAll enc Tryz.prog W 0 (fun _ => true) true Tryz.f5.params.toList args.toList ds p := hA0
  rw [Tryz.params5] at hA hval
  obtain ⟨v0, vs0, d0, ds0, p0, q0, hargs, rfl, rfl, h0, r0⟩ := trodAll_cons hA
  obtain ⟨v1, vs1, d1, ds1, p1, q1, rfl, rfl, rfl, h1, r1⟩ := trodAll_cons r0
  obtain ⟨rfl, rfl, rfl⟩ := trodAll_nil r1
  obtain rfl : args = #[v0, v1] := by cases args; simp_all
  obtain ⟨rfl, rfl⟩ := trodVars_none hV
  obtain ⟨b0, len0, cap0, rfl⟩ := okWide_slice Tryz.underlying38 (hval 0 38 v0 rfl rfl)
  obtain ⟨b1, len1, cap1, rfl⟩ := okWide_slice Tryz.underlying38 (hval 1 38 v1 rfl rfl)
  clear hA0
  obtain ⟨ls0, hls0, hll0⟩ := open_bytesV h0 (fun n hn => by
    have := List.all_eq_true.1 hz n (DataW.weights_mem_each (j := 0) (t := 38) (d := d0) rfl rfl n hn)
    simpa using this)
  obtain ⟨ls1, hls1, hll1⟩ := open_bytesV h1 (fun n hn => by
    have := List.all_eq_true.1 hz n (DataW.weights_mem_each (j := 1) (t := 38) (d := d1) rfl rfl n hn)
    simpa using this)
  simp only [List.append_nil] at hW'
  refine (two_walk hls0 hll0 hls1 hll1).mono fun e W' ⟨he, hg⟩ => ?_
  subst he
  have hB := Chg.same_below hg
  exact ⟨_, rfl, _, _, _, [], _, [], hW', trodAll_mk1 (shut_bool Tryz.underlying4 _), (trodAll_cons_mk (Below.trod laidOutT (by kernel_rfl) (of_decide_eq_true (by kernel_rfl)) h0 hB (fun x hx => hW'.lt x (by simp [hx]))) (trodAll_cons_mk (Below.trod laidOutT (by kernel_rfl) (of_decide_eq_true (by kernel_rfl)) h1 hB (fun x hx => hW'.lt x (by simp [hx]))) trodAll_mk0)), rfl, hB.frame _, fun h => by cases h⟩

abbrev objectsTwo_args : Array Value := #[.slice none 0 0, .slice none 0 0]
theorem objectsTwo_laid (os : Os) : laidMet Tryz.prog Rows.objectsTwoRow.laid ((laidWorld os).forCall (fun _ _ => 0) ⟨#[], objectsTwo_args, []⟩).memory :=
  laidMet_of_run' 8 (by kernel_rfl) (by kernel_rfl)
theorem objectsTwo_reads (os : Os) {H : Type} (enc : TypeId × Value → H) : ∃ places, DataW.whole enc Tryz.prog ((laidWorld os).forCall (fun _ _ => 0) ⟨#[], objectsTwo_args, []⟩).memory Tryz.f5.params.toList Rows.objectsTwoSpec.vars false objectsTwo_args.toList 8 = some ([.nil, .nil], [], places) :=
  ⟨[], by kernel_rfl⟩

set_option maxRecDepth 100000 in
theorem objectsTwo_lifted (os : Os) (started : os.Started) (H : Type) (enc : TypeId × Value → H) (F : Stop.Interp) :
    ReturnsInHanded {} Tryz.checked os 5 .any ((OpenSpec.ofChange Rows.objectsTwoSpec).preRow enc Tryz.prog Tryz.f5 Rows.objectsTwoRow.domain false Rows.objectsTwoRow.laid) (((OpenSpec.ofChange Rows.objectsTwoSpec).at F).post enc Tryz.prog Tryz.f5 false true false false) := by
  obtain ⟨places, hx⟩ := objectsTwo_reads os enc
  refine returnsInHanded_of_row (C := Tryz.checked) (s := OpenSpec.ofChange Rows.objectsTwoSpec) ownT started (by kernel_rfl) Tryz.func5
    (witness_row_at (enc := enc) (C := Tryz.checked) false (laidWorld os) objectsTwo_args rfl (by kernel_rfl) (by kernel_rfl) (by kernel_rfl)
      (OpenSpec.preRow_of_cond 8 hx (by kernel_rfl) (fun k hk => by cases hk) (by kernel_rfl) (objectsTwo_laid os))) ?_
  intro W base args ds gs before hval hW _ hcond hz _ _ _
  exact objectsTwo_contract H enc W base args ds gs before hval hW hz

theorem objectsTwo_said : Rows.ObjectsTwoSaid :=
  OpenClaim.holds_of_cond 5 Tryz.f5 rfl rfl rfl rfl rfl rfl rfl ⟨rfl, rfl, rfl, rfl, rfl⟩ rfl rfl rfl rfl rfl (by kernel_rfl) Tryz.func5 (by kernel_rfl)
    (of_decide_eq_true (by kernel_rfl)) (by unfold Func.isWrapper; first | (rw [if_pos (by decide +kernel)]; kernel_rfl) | (rw [if_neg (by decide +kernel)]; exact ⟨rfl, rfl⟩))
    (fun os started H enc _ F => by rw [OpenClaim.pre_eq_preRow]; exact objectsTwo_lifted os started H enc F)

theorem objectsTwo_plain (f : FuncId) (fn : Func) (hf : Tryz.pinned.checked.prog.funcNamed "shelfmark/shelfmarklaw17.ObjectsTwo" = some f) (hfn : Tryz.pinned.checked.prog.funcs[f]? = some fn) :
    true = Tryz.pinned.checked.prog.looks [] ∧ ∀ (j : Nat) t, fn.params[j]? = some t → Tryz.pinned.checked.prog.wantsStandIn t = false := by
  obtain rfl : f = 5 := Option.some.inj ((show Tryz.prog.funcNamed "shelfmark/shelfmarklaw17.ObjectsTwo" = some 5 by kernel_rfl).symm.trans hf) |>.symm
  obtain rfl : fn = Tryz.f5 := (Option.some.inj (Tryz.func5.symm.trans hfn)).symm
  refine ⟨by kernel_rfl, fun j t ht => ?_⟩
  rw [Tryz.params5] at ht
  have ht2 := Array.mem_of_getElem? ht
  simp only [List.mem_toArray, List.mem_cons, List.not_mem_nil, or_false] at ht2
  rcases ht2 with rfl | rfl
  · exact (show Tryz.prog.wantsStandIn 38 = false by kernel_rfl)
  · exact (show Tryz.prog.wantsStandIn 38 = false by kernel_rfl)

/-- THE CARD. -/
theorem objectsTwo_card : Rows.ObjectsTwoCardSaid :=
  Claim7.holds_tied_plain_at .later [] _ _ _ _ objectsTwo_said (fun _ h => by cases h) (by kernel_rfl) (fun _ h => by cases h) objectsTwo_row_tie rfl ⟨rfl, rfl⟩ (by kernel_rfl) rfl objectsTwo_plain (by kernel_rfl)
#print axioms objectsTwo_card
end Go.Proofs.YtiiinmleiigckaaGreatDoor
