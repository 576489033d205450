/- What is proved here: contracts of a commit, and its plain words. No condition but what each theorem says. -/
import Derived.Test.YtiiinmleiigckaaGreatDoorGS
import Derived.Deep.RegionHeld3
import Derived.OwnWalkIn
set_option linter.unusedVariables false
set_option linter.unusedSimpArgs false

/- S15 -/
namespace Go.Proofs.Obj
open Go Go.RowKit
open Go.Maps (Keyed)

theorem key_unique : ∀ {l : KV}, (l.map (·.1)).Nodup → ∀ {p q : List UInt8 × Value}, q ∈ l → p ∈ l → q.1 = p.1 → q = p
  | [], _, _, _, h, _, _ => by simp at h
  | a :: l, hn, p, q, hq, hp, h => by
    rw [List.map_cons, List.nodup_cons] at hn
    rcases List.mem_cons.1 hq with h1 | h1
    · rcases List.mem_cons.1 hp with h2 | h2
      · rw [h1, h2]
      · exact absurd (List.mem_map.2 ⟨p, h2, by rw [← h, h1]⟩) hn.1
    · rcases List.mem_cons.1 hp with h2 | h2
      · exact absurd (List.mem_map.2 ⟨q, h1, by rw [h, h2]⟩) hn.1
      · exact key_unique hn.2 h1 h2 h
theorem filt_perm : ∀ {l : KV}, (l.map (·.1)).Nodup → ∀ {p : List UInt8 × Value}, p ∈ l → l.Perm (p :: l.filter fun q => !(q.1 == p.1))
  | [], _, _, h => by simp at h
  | a :: l, hn, p, hp => by
    rw [List.map_cons, List.nodup_cons] at hn
    rcases List.mem_cons.1 hp with rfl | hp
    · have e : (p :: l).filter (fun q => !(q.1 == p.1)) = l := by
        rw [List.filter_cons_of_neg (by simp), List.filter_eq_self]
        intro q hq
        have : q.1 ≠ p.1 := fun e => hn.1 (List.mem_map.2 ⟨q, hq, e⟩)
        simpa using this
      rw [e]
    · have hne : a.1 ≠ p.1 := fun e => hn.1 (List.mem_map.2 ⟨p, hp, e.symm⟩)
      rw [List.filter_cons_of_pos (by simpa using hne)]
      exact ((filt_perm hn.2 hp).cons a).trans (List.Perm.swap _ _ _)
theorem any_filt (k s : List UInt8) : ∀ l : KV, (l.any (fun p => p.1 == k) && !(k == s)) = (l.filter fun q => !(q.1 == s)).any fun p => p.1 == k
  | [] => rfl
  | a :: l => by
    have ih := any_filt k s l
    by_cases h1 : a.1 = s
    · rw [List.filter_cons_of_neg (by simp [h1]), ← ih, List.any_cons]
      by_cases h2 : k = s
      · simp [h2]
      · have : (a.1 == k) = false := by simpa [h1] using fun e => h2 e.symm
        rw [this, Bool.false_or]
    · rw [List.filter_cons_of_pos (by simp [h1]), List.any_cons, List.any_cons, ← ih]
      by_cases h2 : a.1 = k
      · have : (k == s) = false := by simpa [← h2] using h1
        simp [h2, this]
      · have : (a.1 == k) = false := by simpa using h2
        simp [this]
/-- A range over a map under way: what is left to come, in some order. -/
def MapOn (kt : TypeId) (w : World) (b r : Nat) (l rest : KV) : Prop :=
  rest.Sublist l ∧ (l.map (·.1)).Nodup ∧ ∃ left cnt, w.ranges Tryz.prog kt HR b r l.length (.map (toL l)) left cnt ∧ ∀ k, left (.string k) = rest.any fun p => p.1 == k

theorem MapAt.nodup {kt : TypeId} (hk : Tryz.prog.underlying kt = some .string) {w : World} {b : Nat} {l : KV} (h : MapAt kt w b l) : (l.map (·.1)).Nodup := by
  have := h.rising hk
  unfold Rising at this
  exact this.imp (fun hb e => by subst e; rw [bytesBefore_irrefl] at hb; cases hb)

theorem MapOn.chg {kt : TypeId} {w w' : World} {b r : Nat} {l rest : KV} (h : MapOn kt w b r l rest) {S : Nat → Prop} (k : Chg S w w') (hb : ¬ S b) (hr : ¬ S r) : MapOn kt w' b r l rest := by
  obtain ⟨h1, h2, left, cnt, ⟨es, clock, since, seen, c0, e1, e2, e3, e4, e5, rest⟩, h3⟩ := h
  exact ⟨h1, h2, left, cnt, ⟨es, clock, since, seen, c0, k.at_ e1 hb, e2, e3, e4, k.at_ e5 hr, rest⟩, h3⟩
theorem MapOn.lt {kt : TypeId} {w : World} {b r : Nat} {l rest : KV} (h : MapOn kt w b r l rest) : r < w.heap.size := by
  obtain ⟨_, _, left, cnt, hr, _⟩ := h
  exact World.ranges.lt hr

/-- 'range m'. -/
theorem MapAt.range {kt t e : TypeId} (hk : Tryz.prog.underlying kt = some .string) (ht : Tryz.prog.underlying t = some (.map kt e)) {w : World} {b : Nat} {l : KV} (h : MapAt kt w b l) :
    ∃ w', (Instr.range t (.map (some b))).run Tryz.prog w = .ok (.pointer (some ⟨w.heap.size, 0, none⟩)) w' ∧ MapOn kt w' b w.heap.size l l ∧ Same w w' := by
  obtain ⟨w', hrun, hr, hg, _⟩ := World.ownsMap.range h (Maps.string_keyed hk) ht
  refine ⟨w', hrun, ⟨List.Sublist.refl _, h.nodup hk, _, _, hr, fun k => ?_⟩, (Chg.of_grown hg).mono (fun k _ e => by cases e)⟩
  simp only [Maps.has, toL, List.any_map]
  rfl

/-- The step. -/
theorem MapOn.next {kt : TypeId} (hk : Tryz.prog.underlying kt = some .string) {w : World} {b r : Nat} {l rest : KV} (h : MapOn kt w b r l rest) (ty : TypeId) :
    (rest = [] ∧ (Instr.next (.pointer (some ⟨r, 0, none⟩)) false ty).run Tryz.prog w = .ok (.tuple #[.bool false]) w) ∨
    ∃ (x : List UInt8 × Value) (rest' : KV) (w' : World), rest.Perm (x :: rest') ∧ x ∈ l ∧ (Instr.next (.pointer (some ⟨r, 0, none⟩)) false ty).run Tryz.prog w = .ok (.tuple #[.bool true, .string (S x.1), x.2]) w' ∧
      MapOn kt w' b r l rest' ∧ w'.rangeLeft b r < w.rangeLeft b r ∧ Chg (fun k => k = r) w w' ∧ (Instr.entry (.pointer (some ⟨r, 0, none⟩))).run Tryz.prog w' = .ok (.tuple #[.string (S x.1), x.2]) w' := by
  obtain ⟨hsub, hnd, left, cnt, hr, hleft⟩ := h
  rcases hr.next (Maps.string_keyed hk) ty with ⟨_, h1, h2⟩ | ⟨key, v, kl, y, w', cnt', h1, h2, h3, h4, h5, h6, h7, h8, h9, h10⟩
  · refine .inl ⟨?_, h2⟩
    cases rest with
    | nil => rfl
    | cons a rr =>
      have := h1 (.string a.1)
      rw [hleft] at this
      simp at this
  · obtain ⟨s, rfl, rfl, _⟩ := Maps.keyOf_str hk h1
    cases h3
    rw [hleft] at h2
    obtain ⟨p, hp, hpk⟩ := List.any_eq_true.1 h2
    have hps : p.1 = s := by simpa using hpk
    have hpl : p ∈ l := hsub.subset hp
    have hv := h4 (.lit (.bool true))
    rw [toL_get'] at hv
    have hgv : kvGet s l = some v := by
      cases hg : kvGet s l with
      | none => rw [hg] at hv; cases hv
      | some u => rw [hg] at hv; rw [DataW.held.inj hv]
    have hpv : p.2 = v := by
      unfold kvGet at hgv
      obtain ⟨q, hq, hq2⟩ := Option.map_eq_some_iff.1 hgv
      have hq1 : q.1 = s := by simpa using List.find?_some hq
      have hql := List.mem_of_find?_eq_some hq
      have : q = p := key_unique hnd hql hpl (hq1.trans hps.symm)
      rw [← this, hq2]
    refine .inr ⟨p, rest.filter (fun q => !(q.1 == s)), w', ?_, hpl, by rw [hps, hpv]; exact h5, ⟨(List.filter_sublist).trans hsub, hnd, _, _, h6, fun k => ?_⟩, by rw [h6.left_eq, hr.left_eq]; exact h7, (Chg.of_grown h8).mono (fun k _ e => by cases e; rfl), by rw [hps, hpv]; exact h10⟩
    · exact hps ▸ filt_perm ((hsub.map _).nodup hnd) hp
    · show (left (.string k) && !(Lit.string k).sameKey (.string s)) = _
      rw [hleft]
      exact any_filt k s rest
end Go.Proofs.Obj

/- S16 -/
namespace Go.Proofs.Obj
open Go Go.RowKit

def secsOf (tab : Tab) (k : List UInt8) : List Nat := match tabGet k tab with | some e => e.secs | none => []
def oneRuns (l : List Nat) : List (Nat × Nat) := l.map fun a => (a, 1)
def usedRuns (l : List Nat) : List (Nat × Nat) := (0, 2) :: oneRuns l
theorem usedRuns_snoc (l : List Nat) (a : Nat) : usedRuns (l ++ [a]) = usedRuns l ++ [(a, 1)] := by simp [usedRuns, oneRuns]
theorem usedRuns_length (l : List Nat) : (usedRuns l).length = l.length + 1 := by simp [usedRuns, oneRuns]

theorem tabGet_mem : ∀ {t : Tab}, (t.map (·.1)).Nodup → ∀ {x : List UInt8 × Ent}, x ∈ t → tabGet x.1 t = some x.2
  | [], _, _, h => by simp at h
  | a :: t, hn, x, hx => by
    rw [List.map_cons, List.nodup_cons] at hn
    unfold tabGet
    rw [List.find?_cons]
    rcases List.mem_cons.1 hx with h1 | h1
    · subst h1; simp
    · have hne : (a.1 == x.1) = false := by
        have : a.1 ≠ x.1 := fun e => hn.1 (List.mem_map.2 ⟨x, h1, e.symm⟩)
        simpa using this
      rw [hne]
      exact tabGet_mem hn.2 h1
theorem secsOf_all {t : Tab} (hn : (t.map (·.1)).Nodup) : (t.map (·.1)).flatMap (secsOf t) = t.flatMap (·.2.secs) := by
  rw [List.flatMap_map]
  have : ∀ l : Tab, (∀ x ∈ l, x ∈ t) → l.flatMap (fun a => secsOf t a.1) = l.flatMap (·.2.secs) := by
    intro l
    induction l with
    | nil => intro _; rfl
    | cons a l ih =>
      intro h
      rw [List.flatMap_cons, List.flatMap_cons, ih (fun x hx => h x (by simp [hx]))]
      have := tabGet_mem hn (h a (by simp))
      simp [secsOf, this]
  exact this t (fun _ h => h)
theorem rangeLeft_chg {w w' : World} {S : Nat → Prop} (k : Chg S w w') {b r : Nat} (hb : b < w.heap.size) (hr : r < w.heap.size) (h1 : ¬ S b) (h2 : ¬ S r) : w'.rangeLeft b r = w.rangeLeft b r := by
  unfold World.rangeLeft
  rw [k.block b hb h1, k.block r hr h2]
theorem kvGet_mem {l : KV} (hn : (l.map (·.1)).Nodup) {x : List UInt8 × Value} (hx : x ∈ l) : kvGet x.1 l = some x.2 := by
  unfold kvGet
  cases hf : l.find? (fun p => p.1 == x.1) with
  | none => have := List.find?_eq_none.1 hf x hx; simp at this
  | some q =>
    have h1 : q.1 = x.1 := by simpa using List.find?_some hf
    rw [key_unique hn (List.mem_of_find?_eq_some hf) hx h1]; rfl

set_option maxRecDepth 100000 in
set_option maxHeartbeats 2000000 in
theorem used_spec {w : World} {s d : Nat} {turn : Int} {idx : List Nat} {tab : Tab} {down : Bool} (hs : StoreAt w s d turn idx tab down) (hmany : idx.length + (tab.flatMap (·.2.secs)).length ≤ 500000) :
    Calls Tryz.prog 67 #[.pointer (some ⟨s, 0, none⟩)] w fun e w' => ∃ (g cap : Nat) (ks : List (List UInt8)), e = .returned (.slice (some ⟨g, 0, none⟩) (usedRuns (idx ++ ks.flatMap (secsOf tab))).length cap) ∧
      RdAt w' g 0 (runCells (usedRuns (idx ++ ks.flatMap (secsOf tab)))) ∧ ks.Perm (tab.map (·.1)) ∧ Same w w' := by
  obtain ⟨mb, iv, kv, hsb, ⟨A, cap, rfl, hidx⟩, hm, ht⟩ := hs
  have s3 := fun o => hsb.cellA 3 o
  simp only [List.getElem?_cons_zero, List.getElem?_cons_succ] at s3
  have hsb1 : SB (w.alloc (.cells #[.int .i64 0, .int .i64 2] 177)) s d mb turn (.slice A idx.length cap) down := Blk.alloc hsb _
  have hrow0 : (w.alloc (.cells #[.int .i64 0, .int .i64 2] 177)).ownsRow w.heap.size 177 2 (.slice (some ⟨w.heap.size, 0, none⟩) 1 1) (usedRuns []).length (runCells (usedRuns [])) :=
    ⟨rfl, .inr ⟨w.heap.size, 1, #[.int .i64 0, .int .i64 2], rfl, Nat.le_refl _, heap_alloc_new w _, Nat.le_refl _, by simp [maxLen], rfl, rfl⟩⟩
  have hS1 : Same w (w.alloc (.cells #[.int .i64 0, .int .i64 2] 177)) := (Chg.refl _ w).alloc _
  go_enter Tryz.func67, Tryz.ntmps67
  go_wp2
  generalize w.alloc (.cells #[.int .i64 0, .int .i64 2] 177) = W at *
  go_loopw [3, 17] (fun v i wr => ∃ m : Nat, m ≤ idx.length ∧ i = .int .i64 m ∧ wr.ownsRow w.heap.size 177 2 v (usedRuns (idx.take m)).length (runCells (usedRuns (idx.take m))) ∧ Same w wr) (fun _ i _ => idx.length - (intOf i).toNat)
  case atStart => exact ⟨0, Nat.zero_le _, rfl, hrow0, hS1⟩
  case round =>
    obtain ⟨m, hml, rfl, hrow, hch⟩ := hrel
    by_cases hlt : m < idx.length
    · rcases hidx with h0 | ⟨b, off, c, rfl, hbb, hr⟩
      · rw [h0] at hlt; simp at hlt
      have c0 := hr.chg hch (fun h => h) m (.int .i64 (idx[m] : Nat)) (by simp [natInts, hlt])
      have hsn := usedRuns_snoc (idx.take m) idx[m]
      rw [List.take_append_getElem hlt] at hsn
      have hln := usedRuns_length (idx.take m)
      rw [List.length_take_of_le hml] at hln
      have Hsn := Lib.hid hsn
      have Hln := Lib.hid hln
      clear hsn hln hr hbb
      generalize idx[m] = a at *
      go_wp2_with (at_builtin; refine app_own rfl (.tmp 21) (.tmp 24) 137 177 _ 2 16 rfl Tryz.underlying137 Tryz.info177 rfl (by decide) (by decide) w.heap.size u3 (usedRuns (idx.take m)).length (runCells (usedRuns (idx.take m))) [.int .i64 (a : Nat), .int .i64 1] rfl rfl rfl ?c1 hrow hch.size ?c3 ?c4)
      case c1 => intro u hu; simp at hu; rcases hu with rfl | rfl <;> rfl
      case c3 => rw [Hln.out]; omega
      case c4 =>
        intro g cap' W3 hrow3 k3 hg3
        have e5 : runCells (usedRuns (idx.take m)) ++ [Value.int .i64 (a : Nat), Value.int .i64 1] = runCells (usedRuns (idx.take (m + 1))) := by rw [Hsn.out, runCells_append]; rfl
        have e6 : (usedRuns (idx.take m)).length + 1 = (usedRuns (idx.take (m + 1))).length := by rw [Hsn.out]; simp
        have hch3 : Same w W3 := hch.trans' k3 (fun _ _ h => h) (fun j hj e => absurd hj (Nat.not_lt.2 (own_base hrow e)))
        rw [e5] at hrow3
        have hrow4 : W3.ownsRow w.heap.size 177 2 (.slice (some ⟨g, 0, none⟩) ((usedRuns (idx.take m)).length + 1) cap') (usedRuns (idx.take (m + 1))).length (runCells (usedRuns (idx.take (m + 1)))) := by rw [← e6]; exact hrow3
        clear hrow3
        go_wp2
        go_roundw
        · exact ⟨m + 1, by omega, rfl, hrow4, hch3⟩
        · simp only [intOf]; omega
    · rw [List.take_of_length_le (by omega)] at hrow
      obtain ⟨W', hrng, hon, hc'⟩ := MapAt.range (t := 71) (e := 99) Tryz.underlying9 Tryz.underlying71 (hm.same hch)
      have hsbr : SB wr s d mb turn (.slice A idx.length cap) down := Blk.same hsb hch
      have s1 := hsbr.cell 1
      simp only [List.getElem?_cons_zero, List.getElem?_cons_succ] at s1
      have hrowW := own_chg hrow hc' (fun _ _ h => h)
      have hkW := hch.trans hc'
      have htW := TabAt.chg hkW (fun _ _ _ h => h) ht
      have hwr := hch.size
      have hkeys := ht.keys
      have hnd : (kv.map (·.1)).Nodup := hm.nodup Tryz.underlying9
      go_wp2
      clear hrng s1 hc' s3
      obtain ⟨q, hq⟩ : ∃ q, q = wr.heap.size := ⟨_, rfl⟩
      rw [← hq] at hon ⊢
      have hwq : w.heap.size ≤ q := by omega
      clear hq
      go_loopw [3] (fun v wr => ∃ (ks : List (List UInt8)) (rest : KV), MapOn 9 wr mb q kv rest ∧ (ks ++ rest.map (·.1)).Perm (kv.map (·.1)) ∧ wr.ownsRow w.heap.size 177 2 v (usedRuns (idx ++ ks.flatMap (secsOf tab))).length (runCells (usedRuns (idx ++ ks.flatMap (secsOf tab)))) ∧ Same w wr) (fun _ wr => wr.rangeLeft mb q)
      case atStart => exact ⟨[], kv, hon, List.Perm.refl _, by simpa using hrowW, hkW⟩
      case round =>
        obtain ⟨ks, rest, hon, hperm, hrow, hch⟩ := hrel
        rcases hon.next Tryz.underlying9 0 with ⟨rfl, hnx⟩ | ⟨x, rest', w1, hpr, hxl, hnx, hon1, hlt1, hc1, hen⟩
        · obtain ⟨B, cap2, rfl⟩ := own_form hrow
          have hg0 : ∃ g, B = some ⟨g, 0, none⟩ := by
            rcases hrow.2 with ⟨_, h0⟩ | ⟨g, cap, cur, h, _⟩
            · rw [usedRuns_length] at h0; omega
            · exact ⟨g, by simpa using (Value.slice.inj h).1⟩
          obtain ⟨g, rfl⟩ := hg0
          have hrdF := own_rd hrow
          rw [List.map_nil, List.append_nil, hkeys] at hperm
          clear hrow
          go_wp2
          go_ret
          exact ⟨g, cap2, ks, rfl, hrdF, hperm, hch⟩
        · have hch1 : Same w w1 := hch.trans' hc1 (fun _ _ h => h) (fun j hj e => by omega)
          have hrow1 := own_chg hrow hc1 (fun b hb e => by
            subst e
            obtain ⟨c, hc⟩ := own_type hrow hb
            obtain ⟨_, _, _, _, ⟨_, _, _, _, _, _, _, _, _, hh, _⟩, _⟩ := hon
            have := hc.symm.trans hh
            cases this)
          have hgx := kvGet_mem hnd hxl
          rcases TabAt.get x.1 ht with ⟨h1, _⟩ | ⟨v1, e1, h1, h2, hent⟩
          · rw [hgx] at h1; cases h1
          · rw [hgx] at h1
            obtain rfl : x.2 = v1 := by simpa using h1
            obtain ⟨_, hxv, A2, cap2, rfl, hsec⟩ := hent
            obtain ⟨xk, xv⟩ := x
            dsimp only at hxv hnx hen h2 hgx h1 hpr
            subst hxv
            have hmlt := hm.lt
            have hq1 := hon1.lt
            have hS2 : Same w1 (w1.alloc (.cells #[.int .i64 e1.size, .slice A2 e1.secs.length cap2] 99)) := (Chg.refl _ w1).alloc _
            have hon2 := hon1.chg hS2 (fun h => h) (fun h => h)
            have hrl2 : (w1.alloc (.cells #[.int .i64 e1.size, .slice A2 e1.secs.length cap2] 99)).rangeLeft mb q < wr.rangeLeft mb q := by
              rw [rangeLeft_chg hS2 (by have := hch1.size; omega) hq1 (fun h => h) (fun h => h)]; exact hlt1
            have hrow2 := own_chg hrow1 hS2 (fun _ _ h => h)
            have hch2 := hch1.trans hS2
            have hpre : (idx ++ ks.flatMap (secsOf tab)).length + e1.secs.length ≤ 500000 := by
              have hp1 : (ks ++ rest.map (·.1)).Perm (tab.map (·.1)) := by rw [← hkeys]; exact hperm
              have hp2 : (ks ++ (xk :: rest'.map (·.1))).Perm (tab.map (·.1)) := (List.Perm.append_left ks (hpr.map Prod.fst).symm).trans hp1
              have hp3 := (hp2.flatMap_right (secsOf tab)).length_eq
              rw [secsOf_all (by rw [← hkeys]; exact hnd)] at hp3
              rw [List.flatMap_append, List.flatMap_cons, List.length_append, List.length_append] at hp3
              have hse : secsOf tab xk = e1.secs := by simp [secsOf, h2]
              rw [hse] at hp3
              rw [List.length_append]
              omega
            go_wp2
            generalize w1.alloc (.cells #[.int .i64 e1.size, .slice A2 e1.secs.length cap2] 99) = U at *
            generalize hpr0 : idx ++ ks.flatMap (secsOf tab) = pr at *
            obtain ⟨wo, rfl⟩ : ∃ y, y = wr := ⟨_, rfl⟩
            go_loopw [3, 39] (fun v i wr => ∃ j : Nat, j ≤ e1.secs.length ∧ i = .int .i64 j ∧ wr.ownsRow w.heap.size 177 2 v (usedRuns (pr ++ e1.secs.take j)).length (runCells (usedRuns (pr ++ e1.secs.take j))) ∧ Chg (fun k => w.heap.size ≤ k ∧ k ≠ q) U wr) (fun _ i _ => e1.secs.length - (intOf i).toNat)
            case atStart => exact ⟨0, Nat.zero_le _, rfl, by simpa using hrow2, .refl _ _⟩
            case round =>
              obtain ⟨j, hjl, rfl, hrj, hcj⟩ := hrel
              have hwU := hch2.size
              have hchj : Same w wr := hch2.trans' hcj (fun _ _ h => h) (fun j hj e => absurd hj (by omega))
              by_cases hjt : j < e1.secs.length
              · rcases hsec with h0 | ⟨b, off, c, rfl, hbb, hr⟩
                · rw [h0] at hjt; simp at hjt
                have c0 := hr.chg hchj (fun h => h) j (.int .i64 (e1.secs[j] : Nat)) (by simp [natInts, hjt])
                have hsn := usedRuns_snoc (pr ++ e1.secs.take j) e1.secs[j]
                rw [List.append_assoc, List.take_append_getElem hjt] at hsn
                have hln := usedRuns_length (pr ++ e1.secs.take j)
                rw [List.length_append, List.length_take_of_le hjl] at hln
                have Hsn := Lib.hid hsn
                have Hln := Lib.hid hln
                clear hsn hln hr hbb
                generalize e1.secs[j] = a at *
                go_wp2_with (at_builtin; refine app_own rfl (.tmp 43) (.tmp 46) 137 177 _ 2 16 rfl Tryz.underlying137 Tryz.info177 rfl (by decide) (by decide) w.heap.size u3 (usedRuns (pr ++ e1.secs.take j)).length (runCells (usedRuns (pr ++ e1.secs.take j))) [.int .i64 (a : Nat), .int .i64 1] rfl rfl rfl ?d1 hrj hchj.size ?d3 ?d4)
                case d1 => intro u hu; simp at hu; rcases hu with rfl | rfl <;> rfl
                case d3 => rw [Hln.out]; omega
                case d4 =>
                  intro g cap' W3 hrow3 k3 hg3
                  have e5 : runCells (usedRuns (pr ++ e1.secs.take j)) ++ [Value.int .i64 (a : Nat), Value.int .i64 1] = runCells (usedRuns (pr ++ e1.secs.take (j + 1))) := by rw [Hsn.out, runCells_append]; rfl
                  have e6 : (usedRuns (pr ++ e1.secs.take j)).length + 1 = (usedRuns (pr ++ e1.secs.take (j + 1))).length := by rw [Hsn.out]; simp
                  have hqj : ¬ u3.ownBlock = some q := fun e => by
                    obtain ⟨c, hc⟩ := own_type hrj e
                    obtain ⟨_, _, _, _, ⟨_, _, _, _, _, _, _, _, _, hh, _⟩, _⟩ := hon2.chg hcj (by omega) (fun h => h.2 rfl)
                    have := hc.symm.trans hh
                    cases this
                  have hcj3 : Chg (fun k => w.heap.size ≤ k ∧ k ≠ q) U W3 := hcj.trans' k3 (fun _ _ h => h) (fun j hj e => ⟨own_base hrj e, fun e2 => hqj (e2 ▸ e)⟩)
                  rw [e5] at hrow3
                  have hrow4 : W3.ownsRow w.heap.size 177 2 (.slice (some ⟨g, 0, none⟩) ((usedRuns (pr ++ e1.secs.take j)).length + 1) cap') (usedRuns (pr ++ e1.secs.take (j + 1))).length (runCells (usedRuns (pr ++ e1.secs.take (j + 1)))) := by rw [← e6]; exact hrow3
                  clear hrow3
                  go_wp2
                  go_roundw
                  · exact ⟨j + 1, by omega, rfl, hrow4, hcj3⟩
                  · simp only [intOf]; omega
              · rw [List.take_of_length_le (by omega)] at hrj
                have honF := hon2.chg hcj (by omega) (fun h => h.2 rfl)
                have hrlF := rangeLeft_chg hcj (b := mb) (r := q) (by omega) hon2.lt (by omega) (fun h => h.2 rfl)
                have hfl : pr ++ e1.secs = idx ++ (ks ++ [xk]).flatMap (secsOf tab) := by
                  rw [← hpr0, List.flatMap_append]
                  simp [secsOf, h2]
                rw [hfl] at hrj
                have hpermF : ((ks ++ [xk]) ++ rest'.map (·.1)).Perm (kv.map (·.1)) := by
                  refine List.Perm.trans ?_ hperm
                  rw [List.append_assoc]
                  have h := (hpr.map Prod.fst).symm
                  exact List.Perm.append_left ks h
                clear hpr0 hfl
                go_wp2
                go_roundw
                · exact ⟨ks ++ [xk], rest', honF, hpermF, hrj, hchj⟩
                · rw [hrlF]; exact hrl2
end Go.Proofs.Obj

/- S17 -/
namespace Go.Proofs.Obj
open Go Go.RowKit

/-- A slice of numbers that may be cut. -/
def Cut (w : World) (v : Value) (l : List Nat) : Prop := ∃ A cap, v = .slice A l.length cap ∧ l.length ≤ cap ∧ cap ≤ 9223372036854775807 ∧ ((A = none ∧ l = []) ∨ ∃ b off c, A = some ⟨b, off, none⟩ ∧ Blk w b 3 c ∧ RdAt w b off (natInts l))
/-- A plan's block. -/
def PB (w : World) (p : Nat) (fv : Value) (wm lm : Nat) (iv : Value) : Prop := Blk w p 97 [fv, .map (some wm), .map (some lm), iv]

theorem take_no {w : World} {p wm lm : Nat} {fv iv : Value} {F : List Nat} (hp : PB w p fv wm lm iv) (hF : Cut w fv F) (n : Nat) (hn : F.length < n) (hb : n ≤ 4294967296) :
    Calls Tryz.prog 101 #[.pointer (some ⟨p, 0, none⟩), .int .i64 n] w fun e w' => e = .returned (.tuple #[.slice none 0 0, .bool false]) ∧ w = w' := by
  obtain ⟨A, cap, rfl, _⟩ := hF
  have c0 := hp.cell 0
  simp only [List.getElem?_cons_zero] at c0
  have h1 : (F.length : Int) < (n : Int) := by omega
  go_enter Tryz.func101, Tryz.ntmps101
  go_wp2
  go_ret2
  exact ⟨rfl, rfl⟩

def TakePost (w : World) (p wm lm : Nat) (iv : Value) (F : List Nat) (n : Nat) (e : Ending) (w' : World) : Prop :=
  ∃ ov fv', e = .returned (.tuple #[ov, .bool true]) ∧ Secs w' ov (F.take n) ∧ PB w' p fv' wm lm iv ∧ Cut w' fv' (F.drop n) ∧ Chg (fun k => k = p) w w'
theorem take_yes {w : World} {p wm lm : Nat} {fv iv : Value} {F : List Nat} (hp : PB w p fv wm lm iv) (hF : Cut w fv F) (n : Nat) (hn : n ≤ F.length) (hb : F.length ≤ 4294967296) :
    Calls Tryz.prog 101 #[.pointer (some ⟨p, 0, none⟩), .int .i64 n] w (TakePost w p wm lm iv F n) := by
  obtain ⟨A, cap, rfl, h1, h2, hA⟩ := hF
  have c0 := hp.cell 0
  have f0 := hp.frozen 0
  simp only [List.getElem?_cons_zero] at c0
  have h3 : ¬ (F.length : Int) < (n : Int) := by omega
  rcases hA with ⟨rfl, rfl⟩ | ⟨b, off, c, rfl, hbb, hr⟩
  · obtain rfl : n = 0 := by simpa using hn
    go_enter Tryz.func101, Tryz.ntmps101
    go_wp2
    all_goals (
      go_ret2
      refine ⟨.slice none 0 0, _, rfl, ⟨none, 0, rfl, .inl rfl⟩, hp.setCell 0 _, ⟨none, _, rfl, Nat.zero_le _, ?_, .inl ⟨rfl, rfl⟩⟩, Chg.set1 _ _ _ _⟩
      first | exact h2 | omega)
  · have hpb : ¬ b = p := fun e => hbb.type_ne hp (by decide) e
    have hrt : RdAt w b off (natInts (F.take n)) := fun j u hu => hr j u (by
      have hj : j < n := by
        have := (List.getElem?_eq_some_iff.1 hu).1
        simp [natInts] at this
        omega
      unfold natInts at hu ⊢
      rw [List.getElem?_map, List.getElem?_take_of_lt hj] at hu
      rw [List.getElem?_map]
      exact hu)
    have hrd : RdAt w b (off + n) (natInts (F.drop n)) := fun j u hu => by
      unfold natInts at hu
      rw [List.getElem?_map, List.getElem?_drop] at hu
      rw [Nat.add_assoc]
      exact hr (n + j) u (by unfold natInts; rw [List.getElem?_map]; exact hu)
    have hlt : (F.take n).length = n := List.length_take_of_le hn
    have hld : (F.drop n).length = F.length - n := List.length_drop
    have k : ∀ v, Chg (fun k => k = p) w (w.setCell ⟨p, 0, none⟩ v) := fun v => Chg.set1 w p 0 v
    by_cases hc : cap = n
    · go_enter Tryz.func101, Tryz.ntmps101
      go_wp2
      go_ret2
      refine ⟨.slice (some ⟨b, off, none⟩) n n, .slice (some ⟨b, off, none⟩) (F.length - n) 0, rfl, ⟨_, n, by rw [hlt], .inr ⟨b, off, c, rfl, hbb.chg (k _) hpb, hrt.chg (k _) hpb⟩⟩, hp.setCell 0 _, ⟨_, 0, by rw [hld], by rw [hld]; omega, by omega, .inr ⟨b, off, c, rfl, hbb.chg (k _) hpb, ?_⟩⟩, k _⟩
      have : F.drop n = [] := List.drop_of_length_le (by omega)
      rw [this]
      intro j u hu
      simp [natInts] at hu
    · go_enter Tryz.func101, Tryz.ntmps101
      go_wp2
      go_ret2
      exact ⟨.slice (some ⟨b, off, none⟩) n n, .slice (some ⟨b, off + n, none⟩) (F.length - n) (cap - n), rfl, ⟨_, n, by rw [hlt], .inr ⟨b, off, c, rfl, hbb.chg (k _) hpb, hrt.chg (k _) hpb⟩⟩, hp.setCell 0 _, ⟨_, cap - n, by rw [hld], by rw [hld]; omega, by omega, .inr ⟨b, off + n, c, rfl, hbb.chg (k _) hpb, hrd.chg (k _) hpb⟩⟩, k _⟩
end Go.Proofs.Obj

/- S18 -/
namespace Go.Proofs.Obj
open Go Go.RowKit

set_option maxRecDepth 100000 in
set_option maxHeartbeats 1000000 in
/-- (*plan).write. -/
theorem pwrite_spec {w : World} {p wm lm : Nat} {fv iv : Value} {ws : KV} (hp : PB w p fv wm lm iv) (hm : MapAt 149 w wm ws) (hl : ws.length ≤ 1000000) (a : Nat) (ha : a < 65536) (s : ByteArray) :
    Calls Tryz.prog 102 #[.pointer (some ⟨p, 0, none⟩), .int .i64 a, .string s] w fun e w' => e = .returned (.tuple #[]) ∧ MapAt 149 w' wm (kvPut (littleL a 2) (.string s) ws) ∧ Chg (fun k => k = wm) w w' := by
  have c1 := hp.cell 1
  simp only [List.getElem?_cons_zero, List.getElem?_cons_succ] at c1
  have hlt := fun W => little_spec (w := W) a 2 (by omega) (by omega) (by omega)
  go_enter Tryz.func102, Tryz.ntmps102
  go_wp2
  go_region_with (first
    | (go_at_call 103; refine (hlt _).mono ?_; rintro e w1 ⟨rfl, k1⟩
       have hw1 : Same w w1 := (Chg.refl _ w).drew.trans k1
       have hp1 : PB w1 p fv wm lm iv := Blk.same hp hw1
       have d1 := hp1.cell 1
       simp only [List.getElem?_cons_zero, List.getElem?_cons_succ] at d1
       obtain ⟨W', hrun, hm', hc'⟩ := MapAt.put (t := 95) (e := 9) (hm.same hw1) Tryz.underlying149 Tryz.underlying95 (by simp only [maxLen]; omega) ⟨(littleL a 2).toArray⟩ (by show (S (littleL a 2)).size ≤ maxLen; rw [S_size, littleL_length]; simp [maxLen]) (.string s)))
  all_goals (
    go_end0
    exact ⟨rfl, hm', Chg.after_same hw1 hc'⟩)
end Go.Proofs.Obj

/- S19 -/
namespace Go.Proofs.Obj
open Go Go.RowKit

/-- A sector's bytes: the first of a blob's, with zeros behind. -/
def pad64 (s : List UInt8) : List UInt8 := s.take 64 ++ zeros (64 - (s.take 64).length)
/-- What a blob's sectors are told to hold. -/
def chunkPut (ws : KV) : List Nat → List UInt8 → KV
  | [], _ => ws
  | a :: r, s => chunkPut (kvPut (littleL a 2) (.string (S (pad64 s))) ws) r (s.drop 64)
def manyOf (n each : Nat) : Nat := (n + each - 1) / each
def BlobPost (w : World) (p wm lm : Nat) (iv : Value) (F : List Nat) (ws : KV) (s : List UInt8) (e : Ending) (w' : World) : Prop :=
  if manyOf s.length 64 ≤ F.length then
    ∃ ov fv', e = .returned (.tuple #[.agg #[.int .i64 s.length, ov], .bool true]) ∧ Secs w' ov (F.take (manyOf s.length 64)) ∧ PB w' p fv' wm lm iv ∧ Cut w' fv' (F.drop (manyOf s.length 64)) ∧
      MapAt 149 w' wm (chunkPut ws (F.take (manyOf s.length 64)) s) ∧ Chg (fun k => k = p ∨ k = wm) w w'
  else e = .returned (.tuple #[.agg #[.int .i64 s.length, .slice none 0 0], .bool false]) ∧ Same w w'

set_option maxRecDepth 100000 in
set_option maxHeartbeats 1000000 in
theorem blob_no {w : World} {p wm lm : Nat} {fv iv : Value} {F : List Nat} {ws : KV} (hp : PB w p fv wm lm iv) (hF : Cut w fv F) (s : List UInt8) (hs : s.length ≤ 4294967) (hn : ¬ manyOf s.length 64 ≤ F.length) :
    Calls Tryz.prog 70 #[.pointer (some ⟨p, 0, none⟩), .string (S s)] w (BlobPost w p wm lm iv F ws s) := by
  have hmn := fun W => many_spec (w := W) s.length 64 (by omega) (by omega) (by omega)
  change ∀ W, Calls Tryz.prog 62 _ W fun e w' => e = .returned (.int .i64 (manyOf s.length 64 : Nat)) ∧ _ at hmn
  have hm2 : manyOf s.length 64 ≤ 4294967296 := by unfold manyOf; omega
  have hpost : ∀ e w', BlobPost w p wm lm iv F ws s e w' = (e = .returned (.tuple #[.agg #[.int .i64 s.length, .slice none 0 0], .bool false]) ∧ Same w w') := fun e w' => by rw [BlobPost, if_neg hn]
  have htk := fun W (h : Same w W) => take_no (Blk.same hp h : PB W p fv wm lm iv) (by
    obtain ⟨A, cap, rfl, h1, h2, hA⟩ := hF
    refine ⟨A, cap, rfl, h1, h2, ?_⟩
    rcases hA with hA | ⟨b, off, c, hA, hb, hr⟩
    · exact .inl hA
    · exact .inr ⟨b, off, c, hA, hb.same h, hr.chg h (fun h => h)⟩ : Cut W fv F) (manyOf s.length 64) (by omega) hm2
  generalize manyOf s.length 64 = mn at *
  have hsz := S_size s
  have hB := Blk.new w 99 [.int .i64 0, .slice none 0 0]
  go_enter Tryz.func70, Tryz.ntmps70
  go_wp2_with (first
    | (go_at_call 62; refine (hmn _).mono ?_; rintro e w1 ⟨rfl, rfl⟩)
    | (go_at_call 101; refine (htk _ (((Chg.refl _ w).alloc _).alloc _)).mono ?_; rintro e w2 ⟨rfl, rfl⟩))
  have hB2 : Blk ((w.alloc (.cells #[.int .i64 0, .slice none 0 0] 99)).alloc (.cells #[.int .i64 s.length, .slice none 0 0] 99)) (w.heap.size + 1) 99 [.int .i64 s.length, .slice none 0 0] := by
    have := Blk.new (w.alloc (.cells #[.int .i64 0, .slice none 0 0] 99)) 99 [.int .i64 s.length, .slice none 0 0]
    rwa [World.size_alloc] at this
  have hB1 := hB.alloc (.cells #[.int .i64 s.length, .slice none 0 0] 99)
  have hS : Same w ((w.alloc (.cells #[.int .i64 0, .slice none 0 0] 99)).alloc (.cells #[.int .i64 s.length, .slice none 0 0] 99)) := ((Chg.refl _ w).alloc _).alloc _
  change Blk ((w.alloc (.cells #[.int .i64 0, .slice none 0 0] 99)).alloc (.cells #[.int .i64 s.length, .slice none 0 0] 99)) _ _ _ at hB1
  generalize (w.alloc (.cells #[.int .i64 0, .slice none 0 0] 99)).alloc (.cells #[.int .i64 s.length, .slice none 0 0] 99) = W at *
  go_loopw [25] (fun i wr => i = .int .i64 0 ∧ W = wr) (fun _ _ => 0)
  case atStart => exact ⟨rfl, rfl⟩
  case round =>
    obtain ⟨rfl, rfl⟩ := hrel
    obtain ⟨c0, c1, f0, f1, c01, f01⟩ := hB1.st2
    obtain ⟨d0, d1, e0, e1, d01, e01⟩ := hB2.st2
    have hX : Blk (W.setCell ⟨w.heap.size + 1, 1, none⟩ (.slice none 0 0)) w.heap.size 99 [.int .i64 0, .slice none 0 0] := hB1.setOther ⟨w.heap.size + 1, 1, none⟩ _ (by show w.heap.size ≠ w.heap.size + 1; omega)
    have hXF := hX.put2 (.int .i64 s.length) (.slice none 0 0)
    have kX : Same w (W.setCell ⟨w.heap.size + 1, 1, none⟩ (.slice none 0 0)) := hS.trans' (U := fun _ => False) (Chg.set1 W (w.heap.size + 1) 1 _) (fun _ _ h => h) (fun j hj e => by omega)
    have kXF := kX.trans' (U := fun _ => False) (Chg.put2 _ w.heap.size (.int .i64 s.length) (.slice none 0 0)) (fun _ _ h => h) (fun j hj e => by omega)
    go_wp2
    refine bodyPost_ret_by (results_row_tmp rfl _ _ w.heap.size 99 _ _ rfl hXF Tryz.underlying99 rfl (by kernel_rfl)) rfl ?_
    rw [hpost]
    exact ⟨rfl, kXF⟩
end Go.Proofs.Obj

/- S20 -/
namespace Go.Proofs.Obj
open Go Go.RowKit

theorem Cut.same {w w' : World} {v : Value} {l : List Nat} (h : Cut w v l) {S : Nat → Prop} (k : Chg S w w') (hn : Off3 w S) : Cut w' v l := by
  obtain ⟨A, cap, hv, h1, h2, hA⟩ := h
  refine ⟨A, cap, hv, h1, h2, ?_⟩
  rcases hA with hA | ⟨b, off, c, hA, hb, hr⟩
  · exact .inl hA
  · exact .inr ⟨b, off, c, hA, hb.chg k (hn _ _ hb), hr.chg k (hn _ _ hb)⟩
theorem MapAt.off3 {kt : TypeId} {w : World} {b : Nat} {l : KV} (h : MapAt kt w b l) : Off3 w (fun k => k = b) := fun g c hb e => by subst e; exact h.ne hb rfl

set_option maxRecDepth 100000 in
set_option maxHeartbeats 2000000 in
theorem blob_yes {w : World} {p wm lm : Nat} {fv iv : Value} {F : List Nat} {ws : KV} (hp : PB w p fv wm lm iv) (hF : Cut w fv F) (hm : MapAt 149 w wm ws) (hws : ws.length + F.length ≤ 900000) (hFa : ∀ a ∈ F, a < 65536) (s : List UInt8) (hs : s.length ≤ 4294967) (hn : manyOf s.length 64 ≤ F.length) :
    Calls Tryz.prog 70 #[.pointer (some ⟨p, 0, none⟩), .string (S s)] w (BlobPost w p wm lm iv F ws s) := by
  have hmn := fun W => many_spec (w := W) s.length 64 (by omega) (by omega) (by omega)
  change ∀ W, Calls Tryz.prog 62 _ W fun e w' => e = .returned (.int .i64 (manyOf s.length 64 : Nat)) ∧ _ at hmn
  have hm2 : manyOf s.length 64 * 64 < s.length + 64 := by unfold manyOf; omega
  have hm3 : s.length ≤ manyOf s.length 64 * 64 := by unfold manyOf; omega
  have hpost : ∀ e w', BlobPost w p wm lm iv F ws s e w' = ∃ ov fv', e = .returned (.tuple #[.agg #[.int .i64 s.length, ov], .bool true]) ∧ Secs w' ov (F.take (manyOf s.length 64)) ∧ PB w' p fv' wm lm iv ∧ Cut w' fv' (F.drop (manyOf s.length 64)) ∧
      MapAt 149 w' wm (chunkPut ws (F.take (manyOf s.length 64)) s) ∧ Chg (fun k => k = p ∨ k = wm) w w' := fun e w' => by rw [BlobPost, if_pos hn]
  have htk := fun W (h : Same w W) => take_yes (Blk.same hp h : PB W p fv wm lm iv) (hF.same h (fun _ _ _ h => h)) (manyOf s.length 64) hn (by omega)
  generalize manyOf s.length 64 = mn at *
  have hsz := S_size s
  have hpw := fun W fv' ws' (hp' : PB W p fv' wm lm iv) (hm' : MapAt 149 W wm ws') (hl : ws'.length ≤ 1000000) a (ha : a < 65536) x => pwrite_spec hp' hm' hl a ha x
  have hB := Blk.new w 99 [.int .i64 0, .slice none 0 0]
  go_enter Tryz.func70, Tryz.ntmps70
  go_wp2_with (first
    | (go_at_call 62; refine (hmn _).mono ?_; rintro e w1 ⟨rfl, rfl⟩)
    | (go_at_call 101; refine (htk _ (((Chg.refl _ w).alloc _).alloc _)).mono ?_; rintro e W2 ⟨ov, fv', rfl, ⟨A, cap, rfl, hsec⟩, hp2, hc2, k2⟩))
  have hwp := hp.lt
  have hwm := hm.lt
  have hpm : p ≠ wm := fun e => hm.ne hp e.symm
  have k02 : Chg (fun k => k = p) w W2 := Chg.after_same (((Chg.refl _ w).alloc (.cells #[.int .i64 0, .slice none 0 0] 99)).alloc (.cells #[.int .i64 s.length, .slice none 0 0] 99)) k2
  have hm2' := hm.chg k02 (fun e => hpm e.symm)
  have hlF : (F.take mn).length = mn := List.length_take_of_le hn
  have hsz2 := k2.size
  simp at hsz2
  go_loopw [25] (fun i wr => ∃ (j : Nat) (ws' : KV), j ≤ mn ∧ i = .int .i64 j ∧ MapAt 149 wr wm ws' ∧ ws'.length ≤ ws.length + j ∧ chunkPut ws' ((F.take mn).drop j) (s.drop (64 * j)) = chunkPut ws (F.take mn) s ∧ Chg (fun k => k = wm) W2 wr) (fun i _ => mn - (intOf i).toNat)
  case atStart => exact ⟨0, ws, Nat.zero_le _, rfl, hm2', by omega, rfl, .refl _ _⟩
  case round =>
    obtain ⟨j, ws', hjl, rfl, hmj, hwl, hck, hcj⟩ := hrel
    by_cases hjt : j < mn
    · rcases hsec with h0 | ⟨b, off, c, rfl, hbb, hr⟩
      · rw [h0] at hlF; simp at hlF; omega
      have hjF : j < (F.take mn).length := by omega
      have c0 := hr.chg hcj (hm2'.off3 _ _ hbb) j (.int .i64 ((F.take mn)[j] : Nat)) (by simp only [natInts, List.getElem?_map, List.getElem?_eq_getElem hjF]; rfl)
      have ha := hFa _ (List.mem_of_mem_take (List.getElem_mem hjF))
      have hdr : (F.take mn).drop j = (F.take mn)[j] :: (F.take mn).drop (j + 1) := List.drop_eq_getElem_cons hjF
      have hck2 := hck
      rw [hdr, chunkPut, List.drop_drop] at hck2
      have Hck := Lib.hid hck2
      clear hck hck2 hdr
      generalize (F.take mn)[j] = a at *
      have hext : (S s).extract (j * 64) (min s.length ((j + 1) * 64)) = S ((s.drop (64 * j)).take 64) := by
        rw [S_extract]
        congr 1
        rw [List.take_drop, Nat.mul_comm 64 j]
        have e : j * 64 + 64 = (j + 1) * 64 := by omega
        rw [e]
        by_cases hle : s.length ≤ (j + 1) * 64
        · rw [Nat.min_eq_left hle, List.take_of_length_le (Nat.le_refl _), List.take_of_length_le hle]
        · rw [Nat.min_eq_right (by omega)]
      have hjs : j * 64 < s.length := by omega
      have hmin : min (s.length : Int) (((j : Int) + 1) * 64) = ((min s.length ((j + 1) * 64) : Nat) : Int) := by omega
      have hb1 : j * 64 ≤ min s.length ((j + 1) * 64) := by omega
      have hb2 : min s.length ((j + 1) * 64) ≤ s.length := by omega
      generalize min s.length ((j + 1) * 64) = hi at *
      obtain ⟨lo, hlo0⟩ : ∃ lo, lo = j * 64 := ⟨_, rfl⟩
      have hlo : (j : Int) * 64 = (lo : Int) := by omega
      rw [← hlo0] at hext hjs hb1
      have Hlo := Lib.hid hlo0
      clear hlo0
      have hpj : PB W2 p fv' wm lm iv := hp2
      have hpr : PB wr p fv' wm lm iv := Blk.chg hp2 hcj (fun e => hpm e)
      have hpl : ((s.drop (64 * j)).take 64).length ≤ 64 := by rw [List.length_take]; omega
      have hps := S_size ((s.drop (64 * j)).take 64)
      have hrep := fun W => rep0_spec W (64 - ((s.drop (64 * j)).take 64).length) (by omega)
      have hsub : ((64 - ((s.drop (64 * j)).take 64).length : Nat) : Int) = 64 - (((s.drop (64 * j)).take 64).length : Int) := by omega
      rw [hsub] at hrep
      have hadd := S_append ((s.drop (64 * j)).take 64) (zeros (64 - ((s.drop (64 * j)).take 64).length))
      have hzs : (S (zeros (64 - ((s.drop (64 * j)).take 64).length))).size = 64 - ((s.drop (64 * j)).take 64).length := by rw [S_size]; simp [zeros]
      rw [show (s.drop (64 * j)).take 64 ++ zeros (64 - ((s.drop (64 * j)).take 64).length) = pad64 (s.drop (64 * j)) from rfl] at hadd
      clear hsub
      have hw1 := fun W (k : Same wr W) => hpw W fv' ws' (Blk.same hpr k) (hmj.same k) (by omega) a ha (S (pad64 (s.drop (64 * j))))
      have hjm : (64 : Int) * (j : Int) = (j : Int) * 64 := by omega
      generalize ((s.drop (64 * j)).take 64).length = plen at *
      generalize S ((s.drop (64 * j)).take 64) = part at *
      generalize S (zeros (64 - plen)) = zz at *
      generalize S (pad64 (s.drop (64 * j))) = sec at *
      clear hpw htk hmn
      go_wp2_with (first
        | (go_at_call 39; refine (hrep _).mono ?_; rintro e W3 ⟨rfl, k3⟩)
        | (go_at_call 102; refine (hw1 _ k3).mono ?_; rintro e W4 ⟨rfl, hm4, k4⟩))
      refine ⟨⟨j + 1, kvPut (littleL a 2) (.string sec) ws', by omega, rfl, hm4, by have := kvPut_length (littleL a 2) (.string sec) ws'; omega, ?_, (hcj.then_same k3).trans k4⟩, ?_⟩
      · have e : 64 * (j + 1) = 64 * j + 64 := by omega
        rw [e]
        exact Hck.out
      · simp only [intOf]; omega
    · obtain rfl : j = mn := by omega
      rw [List.drop_of_length_le (by omega), chunkPut] at hck
      have hB1 : Blk ((w.alloc (.cells #[.int .i64 0, .slice none 0 0] 99)).alloc (.cells #[.int .i64 s.length, .slice none 0 0] 99)) w.heap.size 99 [.int .i64 0, .slice none 0 0] := hB.alloc _
      have hB2 : Blk ((w.alloc (.cells #[.int .i64 0, .slice none 0 0] 99)).alloc (.cells #[.int .i64 s.length, .slice none 0 0] 99)) (w.heap.size + 1) 99 [.int .i64 s.length, .slice none 0 0] := by
        have := Blk.new (w.alloc (.cells #[.int .i64 0, .slice none 0 0] 99)) 99 [.int .i64 s.length, .slice none 0 0]
        rwa [World.size_alloc] at this
      have hC1 := (hB1.chg k2 (by omega)).chg hcj (by omega)
      have hC2 := (hB2.chg k2 (by omega)).chg hcj (by omega)
      have hD2 := hC2.setCell 1 (.slice A j cap)
      have hD1 := hC1.setOther ⟨w.heap.size + 1, 1, none⟩ (.slice A j cap) (by show w.heap.size ≠ w.heap.size + 1; omega)
      have c1 := hC2.cell 1
      have f1 := hC2.frozen 1
      obtain ⟨d0, d1, _⟩ := hD2.st2
      obtain ⟨e0, e1, g0, g1, e01, g01⟩ := hD1.st2
      simp only [List.getElem?_cons_zero, List.getElem?_cons_succ] at c1
      have hF1 := hD1.put2 (.int .i64 s.length) (.slice A j cap)
      have kF : Chg (fun k => k = p ∨ k = wm) w _ := (((k02.trans' hcj (U := fun k => k = p ∨ k = wm) (fun _ _ h => .inl h) (fun _ _ h => .inr h)).setCell (p := ⟨w.heap.size + 1, 1, none⟩) (fun h => absurd h (by show ¬ w.heap.size + 1 < w.heap.size; omega)) (.slice A j cap)).trans' (U := fun k => k = p ∨ k = wm) (Chg.put2 _ w.heap.size (.int .i64 s.length) (.slice A j cap)) (fun _ _ h => h) (fun j hj e => by omega))
      have kA : Chg (fun k => k = w.heap.size + 1) wr (wr.setCell ⟨w.heap.size + 1, 1, none⟩ (.slice A j cap)) := Chg.set1 _ _ _ _
      have kB := Chg.put2 (wr.setCell ⟨w.heap.size + 1, 1, none⟩ (.slice A j cap)) w.heap.size (.int .i64 s.length) (.slice A j cap)
      have kAB : Chg (fun k => k = w.heap.size ∨ k = w.heap.size + 1) wr _ := kA.trans' kB (fun _ _ h => .inr h) (fun _ _ h => .inl h)
      have o3 : Off3 wr (fun k => k = w.heap.size ∨ k = w.heap.size + 1) := fun b c hb e => by
        rcases e with rfl | rfl
        · have := hC1.at_.symm.trans hb.at_; simp at this
        · have := hC2.at_.symm.trans hb.at_; simp at this
      have hpF : PB _ p fv' wm lm iv := Blk.chg (Blk.chg hp2 hcj hpm) kAB (by omega)
      have hcF := (hc2.same hcj hm2'.off3).same kAB o3
      have hsF := (Secs.chg (v := .slice A (F.take j).length cap) ⟨A, cap, rfl, hsec⟩ hcj hm2'.off3).chg kAB o3
      rw [hlF] at hsF
      have hmF := hmj.chg kAB (by omega)
      rw [hck] at hmF
      clear hB hB1 hB2
      go_wp2
      refine bodyPost_ret_by (results_row_tmp rfl _ _ w.heap.size 99 _ _ rfl hF1 Tryz.underlying99 rfl (by kernel_rfl)) rfl ?_
      rw [hpost]
      exact ⟨_, fv', rfl, hsF, hpF, hcF, hmF, kF⟩
end Go.Proofs.Obj

/- U2 -/
/-
  A strings.Builder, with its buffer's own place: what a write may touch.
-/
namespace Go.Proofs.Obj
open Go Go.RowKit

/-- A builder, the header of its buffer told. -/
def BldV (w : World) (b : Nat) (v : Value) (l : List UInt8) : Prop :=
  ∃ p, (p = .pointer none ∨ p = .pointer (some ⟨b, 0, none⟩)) ∧ Blk w b 104 [p, v] ∧ w.ownsRowF b 5 1 v l.length (Lib.byteCells l) ∧ v.ownBlock ≠ some b

theorem BldV.bld {w : World} {b : Nat} {v : Value} {l : List UInt8} (h : BldV w b v l) : Bld w b l := by
  obtain ⟨p, hp, hb, ho, hn⟩ := h
  have e : (Lib.byteCells l).length = l.length := by simp [Lib.byteCells]
  have h' : Lib.BuilderAtF 104 5 b b p (Lib.byteCells l) w := ⟨Nat.le_refl _, v, hb, by rw [e]; exact ho, hn⟩
  rcases hp with rfl | rfl
  · exact .inl h'
  · exact .inr h'
theorem BldV.of {w : World} {b : Nat} {l : List UInt8} (h : Bld w b l) : ∃ v, BldV w b v l := by
  have e : (Lib.byteCells l).length = l.length := by simp [Lib.byteCells]
  rcases h with ⟨_, v, hb, ho, hn⟩ | ⟨_, v, hb, ho, hn⟩
  · exact ⟨v, _, .inl rfl, hb, by rw [e] at ho; exact ho, hn⟩
  · exact ⟨v, _, .inr rfl, hb, by rw [e] at ho; exact ho, hn⟩
theorem BldV.new (w : World) : BldV (w.alloc (.cells #[.pointer none, .slice none 0 0] 104)) w.heap.size (.slice none 0 0) [] :=
  ⟨_, .inl rfl, heap_alloc_new w _, ⟨rfl, .inl ⟨rfl, rfl⟩⟩, by simp [Value.ownBlock]⟩
theorem ownF_type {w : World} {base : Nat} {e : TypeId} {size n : Nat} {v : Value} {xs : List Value} (h : w.ownsRowF base e size v n xs) {b : Nat} (hv : v.ownBlock = some b) : ∃ c fz, w.heap[b]? = some (.cells c e fz) := by
  rcases h.2 with ⟨rfl, _⟩ | ⟨g, cap, cur, fz, rfl, _, hh, _⟩
  · simp [Value.ownBlock] at hv
  · have : g = b := by simpa [Value.ownBlock] using hv
    subst this; exact ⟨cur, fz, hh⟩
theorem ownF_base {w : World} {base : Nat} {e : TypeId} {size n : Nat} {v : Value} {xs : List Value} (h : w.ownsRowF base e size v n xs) {b : Nat} (hv : v.ownBlock = some b) : base ≤ b := by
  rcases h.2 with ⟨rfl, _⟩ | ⟨g, cap, cur, fz, rfl, hb, _⟩
  · simp [Value.ownBlock] at hv
  · have : g = b := by simpa [Value.ownBlock] using hv
    subst this; exact hb
theorem ownF_chg {w w' : World} {base : Nat} {e : TypeId} {size n : Nat} {v : Value} {xs : List Value} (h : w.ownsRowF base e size v n xs) {S : Nat → Prop} (k : Chg S w w') (hn : ∀ b, v.ownBlock = some b → ¬ S b) : w'.ownsRowF base e size v n xs := by
  refine ⟨h.1, ?_⟩
  rcases h.2 with h2 | ⟨g, cap, cur, fz, hv, hb, hh, r⟩
  · exact .inl h2
  · exact .inr ⟨g, cap, cur, fz, hv, hb, k.at_ hh (hn g (by rw [hv]; rfl)), r⟩
theorem BldV.chg {w w' : World} {b : Nat} {v : Value} {l : List UInt8} (h : BldV w b v l) {S : Nat → Prop} (k : Chg S w w') (hb : ¬ S b) (hv : ∀ g, v.ownBlock = some g → ¬ S g) : BldV w' b v l := by
  obtain ⟨p, hp, hbk, ho, hn⟩ := h
  exact ⟨p, hp, hbk.chg k hb, ownF_chg ho k hv, hn⟩
theorem BldV.own {w : World} {b : Nat} {v : Value} {l : List UInt8} (h : BldV w b v l) : w.ownsRowF b 5 1 v l.length (Lib.byteCells l) := by
  obtain ⟨p, hp, hbk, ho, hn⟩ := h
  exact ho
theorem BldV.lt {w : World} {b : Nat} {v : Value} {l : List UInt8} (h : BldV w b v l) : b < w.heap.size := by
  obtain ⟨p, hp, hbk, ho, hn⟩ := h
  exact hbk.lt

/-- Where an appended string comes to lie: in the row, or in a new one. -/
theorem append_at {w : World} {base : Nat} {v : Value} {n : Nat} {xs : List Value} (hown : w.ownsRowF base 5 1 v n xs) (s : ByteArray) (hl : n + s.size ≤ 140737488355328) (hbase : base ≤ w.heap.size) :
    ∃ v' w', (Builtin.append_ #[38, 9] 38 #[v, .string s]).run Tryz.prog w = .ok v' w' ∧ w'.ownsRowF base 5 1 v' (n + s.size) (xs ++ Lib.strCells s) ∧ w.grownBy w' v.ownBlock ∧ (v'.ownBlock = v.ownBlock ∨ ∀ k, v'.ownBlock = some k → w.heap.size ≤ k) := by
  obtain ⟨i0, hi, hz0, hz1, hz2⟩ := info_parts Tryz.info5
  have hm : n + s.size ≤ maxLen := by unfold maxLen; omega
  obtain ⟨v', w', hr, h2, h3, _⟩ := Lib.run_append_own_stringF (P := Tryz.prog) w base 38 9 38 5 i0 Tryz.underlying38 Tryz.underlying9 hi hz0 hz1 hz2 v n xs hown s hm hl hbase
  refine ⟨v', w', hr, h2, h3, ?_⟩
  rcases hown.2 with ⟨rfl, rfl⟩ | ⟨g, cap, cur, fz, rfl, hbg, hg, hfz, hnc, hcm, hcs, htake⟩
  · obtain ⟨v1, w1, hr1, h21, _⟩ := Lib.run_append_own_string (P := Tryz.prog) w w.heap.size 38 9 38 5 i0 Tryz.underlying38 Tryz.underlying9 hi hz0 hz1 hz2 (.slice none 0 0) 0 xs ⟨hown.1, .inl ⟨rfl, rfl⟩⟩ s hm hl (Nat.le_refl _)
    rw [hr] at hr1
    cases hr1
    exact .inr fun k hk => own_base h21 hk
  · have hcs' : cur.size = cap := by simpa using hcs
    have hxl : xs.length = n := by simpa using hown.1
    by_cases hroom : n + s.size ≤ cap
    · have hr1 := Lib.run_append_room_stringF (P := Tryz.prog) w 38 9 38 5 i0 Tryz.underlying38 Tryz.underlying9 hi hz1 g n cap cur fz hg (by simpa using hfz) s hroom (by omega)
      rw [hr] at hr1
      cases hr1
      exact .inl rfl
    · have hr1 := Lib.run_append_grow_string (P := Tryz.prog) w 38 9 38 5 i0 (.int .u8 0) Tryz.underlying38 Tryz.underlying9 hi hz0 ⟨g, 0, none⟩ n cap xs (by rw [hz1]; simpa using hxl) (hown.cells (g := g) rfl) s (by omega) (by omega) (by rw [hz2]; exact growslice_fits (by omega) (by omega))
      rw [hr] at hr1
      cases hr1
      exact .inr fun k hk => by simp [Value.ownBlock] at hk; omega

theorem wpList_append_at {W w' : World} {ops : Array Oper} {rest : List Oper} {o : Oper} {a : Act} {Q : Exit → Act → World → Prop} (hgd : o.guard = none) (sl x : Operand) (t u : TypeId)
    (ho : o.op = .call { callee := .builtin .append, args := #[sl, x], argTypes := #[t, u] }) {v v' : Value} {s : ByteArray} (hs : a.eval sl = v) (hx : a.eval x = .string s)
    (hr : (Builtin.append_ #[t, u] o.type #[v, .string s]).run Tryz.prog W = .ok v' w') (h : wpList Tryz.prog ops Q rest (a.put o.dst v') w') : wpList Tryz.prog ops Q (o :: rest) a W := by
  refine wpList_plain hgd fun K hK => ?_
  unfold Oper.wp execOp
  simp only [ho, resolve, invoke, builtin, Sem.run_bind, Sem.run_pure, Result.andThen_ok, List.map_toArray, List.map_cons, List.map_nil, hs, hx, hr]
  exact hK _ _ h

/-- WriteString: what it touches. -/
def WrPost (w : World) (b : Nat) (v : Value) (l s : List UInt8) (e : Ending) (w' : World) : Prop :=
  e = .returned (.tuple #[.int .i64 s.length, .nilIface]) ∧ ∃ v', BldV w' b v' (l ++ s) ∧ Chg (fun k => k = b ∨ v.ownBlock = some k) w w' ∧ ∀ k, v'.ownBlock = some k → v.ownBlock = some k ∨ w.heap.size ≤ k
set_option maxHeartbeats 1000000 in
set_option maxRecDepth 100000 in
theorem bldWriteV {w : World} {b : Nat} {v : Value} {l : List UInt8} (h : BldV w b v l) (s : List UInt8) (hl : l.length + s.length ≤ 140737488355328) :
    Calls Tryz.prog 49 #[.pointer (some ⟨b, 0, none⟩), .string (S s)] w (WrPost w b v l s) := by
  obtain ⟨p, hp, hb, ho, hn⟩ := h
  have hck : Calls Tryz.prog 75 #[.pointer (some ⟨b, 0, none⟩)] w fun e w1 => e = .returned (.tuple #[]) ∧ Blk w1 b 104 [.pointer (some ⟨b, 0, none⟩), v] ∧ Chg (fun k => k = b) w w1 := by
    rcases hp with rfl | rfl
    · refine (Any.Builder_copyCheck_fresh (ρ := Tryz.lays105_ren) { Tryz.lays166 with } Tryz.Builder_Extra_105.toX72 b w (by have := hb.cell 0; simpa using this) (by show World.shape? w b = some (104, 2); simp [World.shape?, hb.at_]) (hb.frozen 0)).mono ?_
      rintro e w' ⟨rfl, rfl⟩
      exact ⟨rfl, hb.setCell 0 _, Chg.set1 _ _ _ _⟩
    · refine (Any.Builder_copyCheck_used (ρ := Tryz.lays105_ren) { Tryz.lays166 with } Tryz.Builder_Extra_105.toX72 b w (by have := hb.cell 0; simpa using this)).mono ?_
      rintro e w' ⟨rfl, rfl⟩
      exact ⟨rfl, hb, .refl _ _⟩
  have hsz := S_size s
  go_enter Tryz.func49, Tryz.ntmps49
  go_wp2_with (go_at_call 75; refine hck.mono ?_)
  rintro e w1 ⟨rfl, hb1, k1⟩
  have c1 := hb1.cell 1
  simp only [List.getElem?_cons_zero, List.getElem?_cons_succ] at c1
  have ho1 := ownF_chg ho k1 (fun g hg e => hn (e ▸ hg))
  have hlt := hb1.lt
  obtain ⟨v', w2, hrun, ho2, hg2, hat⟩ := append_at ho1 (S s) (by rw [hsz]; exact hl) (by omega)
  have k2 : Chg (fun k => v.ownBlock = some k) w1 w2 := Chg.of_grown hg2
  have hb2 := hb1.chg k2 hn
  have c2 := hb2.cell 1
  have f2 := hb2.frozen 1
  simp only [List.getElem?_cons_zero, List.getElem?_cons_succ] at c2
  obtain ⟨ao, n', cap, rfl⟩ : ∃ ao n' cap, v' = .slice ao n' cap := by
    rcases ho2.2 with ⟨hv, _⟩ | ⟨g, cap, cur, fz, hv, _⟩
    · exact ⟨_, _, _, hv⟩
    · exact ⟨_, _, _, hv⟩
  have hb3 := hb2.setCell 1 (.slice ao n' cap)
  have hne : (Value.slice ao n' cap).ownBlock ≠ some b := fun e => by
    rcases hat with h | h
    · exact hn (h ▸ e)
    · have := h _ e; omega
  have ho3 := ownF_chg ho2 (Chg.set1 w2 b 1 (.slice ao n' cap)) (fun g hg e => hne (e ▸ hg))
  have ecell : Lib.byteCells (l ++ s) = Lib.byteCells l ++ Lib.strCells (S s) := by simp [Lib.byteCells, Lib.strCells, S]
  have e1 : (l ++ s).length = l.length + (S s).size := by rw [List.length_append, hsz]
  have hs1 := k1.size
  have fin : WrPost w b v l s (.returned (.tuple #[.int .i64 s.length, .nilIface])) (w2.setCell ⟨b, 1, none⟩ (.slice ao n' cap)) := by
    refine ⟨rfl, .slice ao n' cap, ⟨_, .inr rfl, hb3, by rw [ecell, e1]; exact ho3, hne⟩, ?_, fun k hk => ?_⟩
    · exact ((k1.trans' k2 (U := fun k => k = b ∨ v.ownBlock = some k) (fun _ _ h => .inl h) (fun _ _ h => .inr h)).setCell (p := ⟨b, 1, none⟩) (fun _ => .inl rfl) _)
    · rcases hat with h | h
      · exact .inl (h ▸ hk)
      · exact .inr (by have := h _ hk; omega)
  have Fin := Lib.hid fin
  clear ho ho1 ho2 ho3 hat fin hck e1 ecell
  go_wp2_with (at_builtin; refine wpList_append_at rfl (.tmp 12) (.tmp 13) 38 9 rfl rfl rfl hrun ?_)
  go_ret2
  exact Fin.out
/-- The same, what it hands back left open. -/
def WrPostR (w : World) (b : Nat) (v : Value) (l s : List UInt8) (e : Ending) (w' : World) : Prop :=
  ∃ r : Value, e = .returned r ∧ ∃ v', BldV w' b v' (l ++ s) ∧ Chg (fun k => k = b ∨ v.ownBlock = some k) w w' ∧ ∀ k, v'.ownBlock = some k → v.ownBlock = some k ∨ w.heap.size ≤ k
theorem bldWriteR {w : World} {b : Nat} {v : Value} {l : List UInt8} (h : BldV w b v l) (s : List UInt8) (hl : l.length + s.length ≤ 140737488355328) :
    Calls Tryz.prog 49 #[.pointer (some ⟨b, 0, none⟩), .string (S s)] w (WrPostR w b v l s) := (bldWriteV h s hl).mono fun _ _ h => ⟨_, h⟩
end Go.Proofs.Obj

/- P1 -/
/-
  Lists by rising keys: put, taken away. Of no program.
-/
namespace Go.Proofs.Obj
open Go Go.RowKit

section
variable {α β : Type}
abbrev KL (α : Type) := List (List UInt8 × α)
def gIns (x : List UInt8 × α) : KL α → KL α
  | [] => [x]
  | y :: r => if bytesBefore x.1 y.1 then x :: y :: r else y :: gIns x r
def gDel (k : List UInt8) (l : KL α) : KL α := l.filter fun p => !(p.1 == k)
def gPut (k : List UInt8) (v : α) (l : KL α) : KL α := gIns (k, v) (gDel k l)
def gGet (k : List UInt8) (l : KL α) : Option α := (l.find? fun p => p.1 == k).map (·.2)
def gMap (f : α → β) (l : KL α) : KL β := l.map fun x => (x.1, f x.2)

theorem gMap_keys (f : α → β) (l : KL α) : (gMap f l).map (·.1) = l.map (·.1) := by simp [gMap]
theorem gIns_map (f : α → β) (k : List UInt8) (v : α) : ∀ l : KL α, gMap f (gIns (k, v) l) = gIns (k, f v) (gMap f l)
  | [] => rfl
  | y :: r => by
    have ih := gIns_map f k v r
    unfold gMap at *
    rw [gIns, List.map_cons, gIns]
    dsimp only
    split
    · rfl
    · rw [List.map_cons, ih]
theorem gDel_map (f : α → β) (k : List UInt8) (l : KL α) : gMap f (gDel k l) = gDel k (gMap f l) := by
  unfold gMap gDel
  rw [List.filter_map]
  rfl
theorem gPut_map (f : α → β) (k : List UInt8) (v : α) (l : KL α) : gMap f (gPut k v l) = gPut k (f v) (gMap f l) := by
  unfold gPut
  rw [gIns_map, gDel_map]
theorem gMap_congr {f g : α → β} {l : KL α} (h : ∀ x ∈ l, f x.2 = g x.2) : gMap f l = gMap g l := by
  unfold gMap
  exact List.map_congr_left fun x hx => by rw [h x hx]
theorem gIns_perm (x : List UInt8 × α) : ∀ l : KL α, (gIns x l).Perm (x :: l)
  | [] => .refl _
  | y :: r => by
    rw [gIns]
    split
    · exact .refl _
    · exact ((gIns_perm x r).cons y).trans (.swap _ _ _)
theorem gPut_perm (k : List UInt8) (v : α) (l : KL α) : (gPut k v l).Perm ((k, v) :: gDel k l) := gIns_perm _ _
theorem gDel_sub (k : List UInt8) (l : KL α) : (gDel k l).Sublist l := List.filter_sublist
theorem gDel_mem {k : List UInt8} {l : KL α} {x : List UInt8 × α} (h : x ∈ gDel k l) : x ∈ l ∧ x.1 ≠ k := by
  have := List.mem_filter.1 h
  exact ⟨this.1, by simpa using this.2⟩
theorem gPut_mem {k : List UInt8} {v : α} {l : KL α} {x : List UInt8 × α} (h : x ∈ gPut k v l) : x = (k, v) ∨ (x ∈ l ∧ x.1 ≠ k) := by
  rcases List.mem_cons.1 ((gPut_perm k v l).mem_iff.1 h) with h | h
  · exact .inl h
  · exact .inr (gDel_mem h)

theorem bytesBefore_total : ∀ {a b : List UInt8}, bytesBefore a b = false → a ≠ b → bytesBefore b a = true
  | [], [], _, h => absurd rfl h
  | [], _ :: _, h, _ => by simp [bytesBefore] at h
  | _ :: _, [], _, _ => rfl
  | a :: r, b :: s, h, hn => by
    simp only [bytesBefore, Bool.or_eq_true, Bool.and_eq_true, decide_eq_true_eq, beq_iff_eq, Bool.or_eq_false_iff, decide_eq_false_iff_not, Bool.and_eq_false_iff] at h ⊢
    by_cases e : a = b
    · subst e
      rcases h.2 with h2 | h2
      · simp at h2
      · exact .inr ⟨rfl, bytesBefore_total h2 (fun e => hn (by rw [e]))⟩
    · left
      have h1 := UInt8.not_lt.1 h.1
      rcases UInt8.lt_or_eq_of_le h1 with h3 | h3
      · exact h3
      · exact absurd h3.symm e
theorem bytesBefore_trans : ∀ {a b c : List UInt8}, bytesBefore a b = true → bytesBefore b c = true → bytesBefore a c = true
  | [], [], _, h, _ => by simp [bytesBefore] at h
  | [], _ :: _, [], _, h => by simp [bytesBefore] at h
  | [], _ :: _, _ :: _, _, _ => rfl
  | _ :: _, [], _, h, _ => by simp [bytesBefore] at h
  | _ :: _, _ :: _, [], _, h => by simp [bytesBefore] at h
  | a :: r, b :: s, c :: t, h, h2 => by
    simp only [bytesBefore, Bool.or_eq_true, Bool.and_eq_true, decide_eq_true_eq, beq_iff_eq] at h h2 ⊢
    rcases h with h | ⟨rfl, h⟩
    · rcases h2 with h2 | ⟨rfl, h2⟩
      · exact .inl (UInt8.lt_trans h h2)
      · exact .inl h
    · rcases h2 with h2 | ⟨rfl, h2⟩
      · exact .inl h2
      · exact .inr ⟨rfl, bytesBefore_trans h h2⟩

/-- Keys that rise. -/
def RisingK (l : KL α) : Prop := Rising (l.map (·.1))
theorem RisingK.del {l : KL α} (h : RisingK l) (k : List UInt8) : RisingK (gDel k l) := List.Pairwise.sublist ((gDel_sub k l).map _) h
theorem gIns_rising (x : List UInt8 × α) : ∀ {l : KL α}, RisingK l → (∀ y ∈ l, y.1 ≠ x.1) → RisingK (gIns x l)
  | [], _, _ => by simp [RisingK, Rising, gIns]
  | y :: r, h, hn => by
    unfold RisingK Rising at h
    rw [List.map_cons, List.pairwise_cons] at h
    rw [gIns]
    split
    · rename_i hb
      unfold RisingK Rising
      rw [List.map_cons, List.pairwise_cons]
      refine ⟨fun z hz => ?_, by rw [List.map_cons, List.pairwise_cons]; exact h⟩
      rcases List.mem_cons.1 (by rwa [List.map_cons] at hz) with rfl | hz
      · exact hb
      · exact bytesBefore_trans hb (h.1 z hz)
    · rename_i hb
      have hyx : bytesBefore y.1 x.1 = true := bytesBefore_total (by simpa using hb) (fun e => hn y (by simp) e.symm)
      have ih := gIns_rising x (l := r) h.2 (fun z hz => hn z (by simp [hz]))
      unfold RisingK Rising at ih ⊢
      rw [List.map_cons, List.pairwise_cons]
      refine ⟨fun z hz => ?_, ih⟩
      obtain ⟨u, hu, rfl⟩ := List.mem_map.1 hz
      rcases List.mem_cons.1 ((gIns_perm x r).mem_iff.1 hu) with rfl | hu
      · exact hyx
      · exact h.1 _ (List.mem_map.2 ⟨u, hu, rfl⟩)
theorem RisingK.put {l : KL α} (h : RisingK l) (k : List UInt8) (v : α) : RisingK (gPut k v l) := gIns_rising _ (h.del k) (fun _ hy => (gDel_mem hy).2)
theorem RisingK.nodup {l : KL α} (h : RisingK l) : (l.map (·.1)).Nodup := List.Pairwise.imp (fun hb e => by subst e; rw [bytesBefore_irrefl] at hb; cases hb) h
end

theorem kvIns_eq (x : List UInt8 × Value) : ∀ l : KV, kvIns x l = gIns x l
  | [] => rfl
  | y :: r => by rw [kvIns, gIns, kvIns_eq x r]
theorem kvPut_eq (k : List UInt8) (v : Value) (l : KV) : kvPut k v l = gPut k v l := by unfold kvPut gPut; rw [kvIns_eq]; rfl
theorem kvDel_eq (k : List UInt8) (l : KV) : kvDel k l = gDel k l := rfl
theorem tabGet_eq (k : List UInt8) (l : Tab) : tabGet k l = gGet k l := rfl

theorem TabAt.del {w : World} (k : List UInt8) : ∀ {kv : KV} {t : Tab}, TabAt w kv t → TabAt w (gDel k kv) (gDel k t)
  | [], [], _ => trivial
  | x :: r, y :: t, h => by
    have ih := TabAt.del k h.2.2
    unfold gDel at *
    rw [List.filter_cons, List.filter_cons, ← h.1]
    split
    · exact ⟨h.1, h.2.1, ih⟩
    · exact ih
theorem TabAt.ins {w : World} {k : List UInt8} {v : Value} {e : Ent} (hv : EntAt w v e) : ∀ {kv : KV} {t : Tab}, TabAt w kv t → TabAt w (gIns (k, v) kv) (gIns (k, e) t)
  | [], [], _ => ⟨rfl, hv, trivial⟩
  | x :: r, y :: t, h => by
    have ih := TabAt.ins (k := k) hv h.2.2
    rw [gIns, gIns]
    dsimp only
    rw [← h.1]
    split
    · exact ⟨rfl, hv, h⟩
    · exact ⟨h.1, h.2.1, ih⟩
theorem TabAt.put {w : World} {k : List UInt8} {v : Value} {e : Ent} (hv : EntAt w v e) {kv : KV} {t : Tab} (h : TabAt w kv t) : TabAt w (kvPut k v kv) (gPut k e t) := by
  rw [kvPut_eq]; exact TabAt.ins hv (TabAt.del k h)
end Go.Proofs.Obj

/- P2 -/
/-
  What is written over sectors, in plain words: of no program.
-/
namespace Go.Proofs.Obj
open Go Go.RowKit

theorem little2_inj {a b : Nat} (ha : a < 65536) (hb : b < 65536) (h : littleL a 2 = littleL b 2) : a = b := by
  have h1 := congrArg numL h
  rw [numL_little, numL_little] at h1
  rwa [Nat.mod_eq_of_lt (by simpa using ha), Nat.mod_eq_of_lt (by simpa using hb)] at h1
theorem num_little2 {a : Nat} (ha : a < 65536) : numL (littleL a 2) = a := by
  rw [numL_little, Nat.mod_eq_of_lt (by simpa using ha)]

/-- Sectors with writes over them. -/
def ov (ws : KV) (rd : Nat → ByteArray) (a : Nat) : ByteArray := match kvGet (littleL a 2) ws with | some (.string s) => s | _ => rd a
theorem ov_nil (rd : Nat → ByteArray) : ov [] rd = rd := rfl
theorem ov_put {ws : KV} {rd : Nat → ByteArray} {a : Nat} (ha : a < 65536) (s : ByteArray) {b : Nat} (hb : b < 65536) :
    ov (kvPut (littleL a 2) (.string s) ws) rd b = if b = a then s else ov ws rd b := by
  unfold ov
  rw [kvGet_put]
  by_cases h : b = a
  · subst h; simp
  · rw [if_neg (fun e => h (little2_inj hb ha e)), if_neg h]

theorem ov_chunk {rd : Nat → ByteArray} : ∀ (part : List Nat) (ws : KV) (s : List UInt8), (∀ a ∈ part, a < 65536) → ∀ {b : Nat}, b < 65536 → b ∉ part → ov (chunkPut ws part s) rd b = ov ws rd b
  | [], _, _, _, _, _, _ => rfl
  | a :: r, ws, s, h, b, hb, hn => by
    rw [chunkPut, ov_chunk r _ _ (fun x hx => h x (by simp [hx])) hb (fun e => hn (by simp [e])), ov_put (h a (by simp)) _ hb, if_neg (fun e => hn (by simp [e]))]
theorem pad64_length (s : List UInt8) : (pad64 s).length = 64 := by
  unfold pad64
  rw [List.length_append, zeros, List.length_replicate, List.length_take]
  omega
theorem secBytes_congr {rd rd' : Nat → ByteArray} {l : List Nat} (h : ∀ a ∈ l, rd' a = rd a) : secBytes rd' l = secBytes rd l := by
  unfold secBytes
  induction l with
  | nil => rfl
  | cons a l ih => rw [List.flatMap_cons, List.flatMap_cons, ih (fun x hx => h x (by simp [hx])), h a (by simp)]
theorem secBytes_chunk {rd : Nat → ByteArray} : ∀ (part : List Nat) (ws : KV) (s : List UInt8), part.Nodup → (∀ a ∈ part, a < 65536) → part.length = manyOf s.length 64 →
    (secBytes (ov (chunkPut ws part s) rd) part).take s.length = s
  | [], ws, s, _, _, hl => by
    have : s.length = 0 := by simp only [manyOf, List.length_nil] at hl; omega
    rw [List.eq_nil_of_length_eq_zero this]; rfl
  | a :: r, ws, s, hn, h, hl => by
    rw [List.nodup_cons] at hn
    have hlr : (a :: r).length = r.length + 1 := rfl
    have ih := secBytes_chunk (rd := rd) r (kvPut (littleL a 2) (.string (S (pad64 s))) ws) (s.drop 64) hn.2 (fun x hx => h x (by simp [hx])) (by rw [List.length_drop]; unfold manyOf at *; omega)
    have ha := h a (by simp)
    have e0 : ov (chunkPut ws (a :: r) s) rd a = S (pad64 s) := by
      rw [chunkPut, ov_chunk r _ _ (fun x hx => h x (by simp [hx])) ha hn.1, ov_put ha _ ha, if_pos rfl]
    have e1 : secBytes (ov (chunkPut ws (a :: r) s) rd) (a :: r) = pad64 s ++ secBytes (ov (chunkPut ws (a :: r) s) rd) r := by
      show List.flatMap _ _ = _
      rw [List.flatMap_cons, e0]; rfl
    rw [e1, chunkPut]
    by_cases h64 : s.length ≤ 64
    · rw [List.take_append_of_le_length (by rw [pad64_length]; exact h64)]
      unfold pad64
      rw [List.take_of_length_le h64, List.take_left]
    · have hp : pad64 s = s.take 64 := by
        unfold pad64
        have : (s.take 64).length = 64 := by rw [List.length_take]; omega
        rw [this]; simp [zeros]
      generalize secBytes (ov (chunkPut (kvPut (littleL a 2) (.string (S (pad64 s))) ws) r (s.drop 64)) rd) r = q at *
      rw [hp]
      have h1 : s.length = (s.take 64).length + (s.drop 64).length := by rw [List.length_take, List.length_drop]; omega
      rw [h1, List.take_length_add_append, ih, List.take_append_drop]

/-- The index' sectors. -/
def rowChunks (ws : KV) : List Nat → List UInt8 → KV
  | [], _ => ws
  | a :: r, R => rowChunks (kvPut (littleL a 2) (.string (sealedL (littleL (r.headD 0) 2 ++ R.take 58))) ws) r (R.drop 58)
theorem ov_row {rd : Nat → ByteArray} : ∀ (part : List Nat) (ws : KV) (R : List UInt8), (∀ a ∈ part, a < 65536) → ∀ {b : Nat}, b < 65536 → b ∉ part → ov (rowChunks ws part R) rd b = ov ws rd b
  | [], _, _, _, _, _, _ => rfl
  | a :: r, ws, s, h, b, hb, hn => by
    rw [rowChunks, ov_row r _ _ (fun x hx => h x (by simp [hx])) hb (fun e => hn (by simp [e])), ov_put (h a (by simp)) _ hb, if_neg (fun e => hn (by simp [e]))]
theorem ChainAt.congr {rd rd' : Nat → ByteArray} {n : Nat} : ∀ {idx : List Nat} {R : List UInt8}, ChainAt rd n idx R → (∀ a ∈ idx, rd' a = rd a) → ChainAt rd' n idx R
  | [], _, h, _ => h
  | a :: r, R, h, he => by
    obtain ⟨h1, h2, h3, h4, h5⟩ := h
    exact ⟨h1, h2, h3, by rw [he a (by simp), h4], ChainAt.congr h5 (fun x hx => he x (by simp [hx]))⟩
theorem ChainAt.many {rd : Nat → ByteArray} {n : Nat} : ∀ {idx : List Nat} {R : List UInt8}, ChainAt rd n idx R → idx.length = manyOf R.length 58
  | [], R, h => by
    have : R = [] := h
    subst this; rfl
  | a :: r, R, ⟨h1, _, _, _, h5⟩ => by
    have ih := ChainAt.many h5
    have h0 : 0 < R.length := by
      cases R with
      | nil => exact absurd rfl h1
      | cons => simp
    rw [List.length_cons, ih, List.length_drop]
    unfold manyOf
    omega
theorem chain_row {rd : Nat → ByteArray} {n : Nat} (hn : n ≤ 65536) : ∀ (part : List Nat) (ws : KV) (R : List UInt8), part.Nodup → (∀ a ∈ part, 2 ≤ a ∧ a < n) → part.length = manyOf R.length 58 →
    ChainAt (ov (rowChunks ws part R) rd) n part R
  | [], ws, R, _, _, hl => by
    have : R.length = 0 := by simp only [manyOf, List.length_nil] at hl; omega
    exact List.eq_nil_of_length_eq_zero this
  | a :: r, ws, R, hd, h, hl => by
    rw [List.nodup_cons] at hd
    have hlr : (a :: r).length = r.length + 1 := rfl
    have ih := chain_row (rd := rd) hn r (kvPut (littleL a 2) (.string (sealedL (littleL (r.headD 0) 2 ++ R.take 58))) ws) (R.drop 58) hd.2 (fun x hx => h x (by simp [hx])) (by rw [List.length_drop]; unfold manyOf at *; omega)
    have ha := h a (by simp)
    refine ⟨fun e => ?_, ha.1, ha.2, ?_, ih⟩
    · rw [e] at hl
      simp [manyOf] at hl
    · rw [rowChunks, ov_row r _ _ (fun x hx => by have := (h x (by simp [hx])).2; omega) (by omega) hd.1, ov_put (by omega) _ (by omega), if_pos rfl]

/-- What is written, sector by sector. -/
def decW (ws : KV) : List (Nat × ByteArray) := ws.map fun x => (numL x.1, match x.2 with | .string s => s | _ => ⟨#[]⟩)
/-- Writes to some sectors, each of them once. -/
structure WsOK (ws : KV) (A : Nat → Prop) : Prop where
  rising : RisingK ws
  all : ∀ x ∈ ws, ∃ a s, x = (littleL a 2, Value.string s) ∧ A a ∧ a < 65536 ∧ s.size = 64
theorem WsOK.nil (A : Nat → Prop) : WsOK [] A := ⟨by simp [RisingK, Rising], by simp⟩
theorem WsOK.mono {ws : KV} {A B : Nat → Prop} (h : WsOK ws A) (hAB : ∀ a, A a → B a) : WsOK ws B :=
  ⟨h.rising, fun x hx => by obtain ⟨a, s, h1, h2, h3⟩ := h.all x hx; exact ⟨a, s, h1, hAB a h2, h3⟩⟩
theorem WsOK.put {ws : KV} {A : Nat → Prop} (h : WsOK ws A) {a : Nat} (hA : A a) (ha : a < 65536) {s : ByteArray} (hs : s.size = 64) : WsOK (kvPut (littleL a 2) (.string s) ws) A := by
  rw [kvPut_eq]
  refine ⟨h.rising.put _ _, fun x hx => ?_⟩
  rcases gPut_mem hx with rfl | ⟨hx, _⟩
  · exact ⟨a, s, rfl, hA, ha, hs⟩
  · exact h.all x hx
theorem WsOK.chunk {A : Nat → Prop} : ∀ (part : List Nat) {ws : KV} (s : List UInt8), WsOK ws A → (∀ a ∈ part, A a ∧ a < 65536) → WsOK (chunkPut ws part s) A
  | [], _, _, h, _ => h
  | a :: r, ws, s, h, hp => by
    rw [chunkPut]
    exact WsOK.chunk r _ (h.put (hp a (by simp)).1 (hp a (by simp)).2 (by rw [S_size, pad64_length])) (fun x hx => hp x (by simp [hx]))
theorem WsOK.row {A : Nat → Prop} : ∀ (part : List Nat) {ws : KV} (R : List UInt8), WsOK ws A → (∀ a ∈ part, A a ∧ a < 65536) → WsOK (rowChunks ws part R) A
  | [], _, _, h, _ => h
  | a :: r, ws, R, h, hp => by
    rw [rowChunks]
    refine WsOK.row r _ (h.put (hp a (by simp)).1 (hp a (by simp)).2 (sealedL_size _ ?_)) (fun x hx => hp x (by simp [hx]))
    rw [List.length_append, littleL_length, List.length_take]; omega
theorem WsOK.dec_mem {ws : KV} {A : Nat → Prop} (h : WsOK ws A) {x : Nat × ByteArray} (hx : x ∈ decW ws) : A x.1 ∧ x.1 < 65536 ∧ x.2.size = 64 := by
  obtain ⟨y, hy, rfl⟩ := List.mem_map.1 hx
  obtain ⟨a, s, rfl, h1, h2, h3⟩ := h.all y hy
  dsimp only
  rw [num_little2 h2]
  exact ⟨h1, h2, h3⟩
theorem laidDown_other : ∀ (l : List (Nat × ByteArray)) (f : List ByteArray) (b : Nat), (∀ x ∈ l, x.1 ≠ b) → (laidDown f l)[b]? = f[b]?
  | [], _, _, _ => rfl
  | x :: l, f, b, h => by
    have e : laidDown f (x :: l) = laidDown (f.set x.1 x.2) l := rfl
    rw [e, laidDown_other l _ b (fun y hy => h y (by simp [hy])), List.getElem?_set_ne (h x (by simp))]
theorem kept_other (keep : List Int) : ∀ (l : List (Nat × ByteArray)) (k : Nat) (f : List ByteArray) (b : Nat), (∀ x ∈ l, x.1 ≠ b) → (keptFrom keep k l f)[b]? = f[b]?
  | [], _, _, _, _ => rfl
  | x :: l, k, f, b, h => by
    rw [keptFrom, kept_other keep l _ _ b (fun y hy => h y (by simp [hy]))]
    split
    · rw [List.getElem?_set_ne (h x (by simp))]
    · rfl
theorem getD_of_getElem? {f g : List ByteArray} {b : Nat} (h : g[b]? = f[b]?) : g.getD b default = f.getD b default := by
  rw [List.getD, List.getD, h]
theorem laid_ov {A : Nat → Prop} : ∀ {ws : KV} (_ : WsOK ws A) (f : List ByteArray) (_ : ∀ a, A a → a < f.length) {b : Nat} (_ : b < 65536),
    (laidDown f (decW ws)).getD b default = ov ws (fun a => f.getD a default) b
  | [], _, _, _, _, _ => rfl
  | x :: ws, h, f, hf, b, hb => by
    obtain ⟨a, s, rfl, hA, ha, hs⟩ := h.all x (by simp)
    have hr := h.rising
    unfold RisingK Rising at hr
    rw [List.map_cons, List.pairwise_cons] at hr
    have h' : WsOK ws A := ⟨hr.2, fun x hx => h.all x (by simp [hx])⟩
    have e : laidDown f (decW ((littleL a 2, Value.string s) :: ws)) = laidDown (f.set a s) (decW ws) := by
      show laidDown (f.set (numL (littleL a 2)) s) (decW ws) = _
      rw [num_little2 ha]
    have hn : ∀ x ∈ ws, x.1 ≠ littleL a 2 := fun x hx e => by
      have := hr.1 x.1 (List.mem_map.2 ⟨x, hx, rfl⟩)
      rw [e, bytesBefore_irrefl] at this
      cases this
    rw [e, laid_ov h' (f.set a s) (fun a hA => by rw [List.length_set]; exact hf a hA) hb]
    unfold ov
    by_cases hba : b = a
    · subst hba
      have h1 : kvGet (littleL b 2) ws = none := by
        unfold kvGet
        rw [List.find?_eq_none.2 (fun x hx => by simpa using hn x hx)]; rfl
      have h2 : kvGet (littleL b 2) ((littleL b 2, Value.string s) :: ws) = some (.string s) := by
        unfold kvGet
        rw [List.find?_cons]; simp
      rw [h1, h2]
      dsimp only
      rw [List.getD, List.getElem?_set_self (hf b hA)]; rfl
    · have hne : littleL a 2 ≠ littleL b 2 := fun e => hba (little2_inj ha hb e).symm
      have h2 : kvGet (littleL b 2) ((littleL a 2, Value.string s) :: ws) = kvGet (littleL b 2) ws := by
        unfold kvGet
        rw [List.find?_cons]
        have : (littleL a 2 == littleL b 2) = false := by simpa using hne
        rw [this]
      rw [h2]
      have e3 : (f.set a s).getD b default = f.getD b default := getD_of_getElem? (List.getElem?_set_ne (fun e => hba e.symm))
      dsimp only
      rw [e3]
end Go.Proofs.Obj

/- P3 -/
/-
  A commit, in plain words: of no program.
-/
namespace Go.Proofs.Obj
open Go Go.RowKit

def allSecs (t : Tab) : List Nat := t.flatMap (·.2.secs)
def zeroSec : ByteArray := ⟨Array.replicate 64 0⟩

theorem topOf_zero : (topOfF zeroSec).2 = false := by
  unfold topOfF
  split
  · rfl
  · rename_i b hb
    unfold crcGet at hb
    split at hb
    · cases hb
    · split at hb
      · have hb' : zeroSec.extract 0 (zeroSec.size - 4) = b := Option.some.inj hb
        subst hb'
        rw [if_neg]
        decide
      · cases hb
theorem blank_zero : blankB zeroSec = true := by kernel_rfl

/-- The two heads: that of this turn counts. -/
def HeadsAt (rd : Nat → ByteArray) (turn at_ size : Nat) : Prop :=
  if turn = 0 then rd 0 = zeroSec ∧ rd 1 = zeroSec ∧ at_ = 0 ∧ size = 0
  else rd (turn % 2) = headB turn at_ size ∧ ((topOfF (rd ((turn + 1) % 2))).2 = true → (topOfF (rd ((turn + 1) % 2))).1.turn < turn)

theorem topOf_head {turn at_ size : Nat} (h0 : 0 < turn) (h1 : turn < 4294967296) (h2 : at_ < 65536) (h3 : size < 4294967296) : topOfF (headB turn at_ size) = (⟨turn, at_, size⟩, true) := by
  have hg : crcGet (headB turn at_ size) = some (S (headL turn at_ size ++ zeros (60 - (headL turn at_ size).length))) := crcGet_sealed _
  unfold topOfF
  rw [hg]
  dsimp only
  have hd : (S (headL turn at_ size ++ zeros (60 - (headL turn at_ size).length))).data.toList = mark ++ (littleL turn 4 ++ (littleL at_ 2 ++ (littleL size 4 ++ zeros (60 - (headL turn at_ size).length)))) := by
    show (_ : List UInt8) = _
    simp [S, headL, List.append_assoc]
  rw [hd]
  generalize zeros (60 - (headL turn at_ size).length) = z
  have t1 : ∀ (a b : List UInt8) (n : Nat), a.length = n → tt (a ++ b) n = (a, b) := by
    intro a b n hn
    subst hn
    unfold tt
    rw [if_pos (by simp), List.take_left, List.drop_left]
  have e0 := t1 mark (littleL turn 4 ++ (littleL at_ 2 ++ (littleL size 4 ++ z))) 4 rfl
  have e1 := t1 (littleL turn 4) (littleL at_ 2 ++ (littleL size 4 ++ z)) 4 (littleL_length _ _)
  have e2 := t1 (littleL at_ 2) (littleL size 4 ++ z) 2 (littleL_length _ _)
  have e3 := t1 (littleL size 4) z 4 (littleL_length _ _)
  have et : topRead (mark ++ (littleL turn 4 ++ (littleL at_ 2 ++ (littleL size 4 ++ z)))) = ⟨turn, at_, size⟩ := by
    unfold topRead
    rw [e0]
    dsimp only
    rw [e1]
    dsimp only
    rw [e2]
    dsimp only
    rw [e3]
    dsimp only
    rw [numL_little, numL_little, numL_little, Nat.mod_eq_of_lt (by simpa using h1), Nat.mod_eq_of_lt (by simpa using h2), Nat.mod_eq_of_lt (by simpa using h3)]
  rw [e0, et, if_pos rfl]
  have : decide (0 < turn) = true := by simpa using h0
  simp [this, Top.B]

theorem headF_of {rd : Nat → ByteArray} {turn at_ size : Nat} (h : HeadsAt rd turn at_ size) (h1 : turn < 4294967296) (h2 : at_ < 65536) (h3 : size < 4294967296) : headF rd = (⟨turn, at_, size⟩, 0) := by
  unfold HeadsAt at h
  unfold headF
  have p2 : picks rd 2 = pick (pick Top.none (rd 0)) (rd 1) := rfl
  split at h
  · rename_i h0
    obtain ⟨a, b, rfl, rfl⟩ := h
    subst h0
    have e : pick Top.none zeroSec = Top.none := by unfold pick; rw [topOf_zero]; rfl
    have p : picks rd 2 = Top.none := by rw [p2, a, b, e, e]
    have bl : blanks rd 2 = 2 := by
      show (0 + (if blankB (rd 0) then 1 else 0)) + (if blankB (rd 1) then 1 else 0) = 2
      rw [a, b, blank_zero]; rfl
    rw [p, bl]
    rfl
  · rename_i h0
    obtain ⟨a, b⟩ := h
    have ht := topOf_head (turn := turn) (at_ := at_) (size := size) (by omega) h1 h2 h3
    have p : picks rd 2 = ⟨turn, at_, size⟩ := by
      rw [p2]
      rcases Nat.mod_two_eq_zero_or_one turn with hm | hm
      · have hm' : (turn + 1) % 2 = 1 := by omega
        rw [hm] at a
        rw [hm'] at b
        have e1 : pick Top.none (rd 0) = ⟨turn, at_, size⟩ := by
          unfold pick
          rw [a, ht]
          have : decide (Top.none.turn < turn) = true := decide_eq_true (show 0 < turn by omega)
          rw [this]; rfl
        rw [e1]
        unfold pick
        rw [if_neg]
        intro hc
        simp only [Bool.and_eq_true, decide_eq_true_eq] at hc
        have := b hc.1
        omega
      · have hm' : (turn + 1) % 2 = 0 := by omega
        rw [hm] at a
        rw [hm'] at b
        have e1 : (pick Top.none (rd 0)).turn < turn := by
          unfold pick
          split
          · rename_i hc
            simp only [Bool.and_eq_true, decide_eq_true_eq] at hc
            exact b hc.1
          · show 0 < turn; omega
        generalize pick Top.none (rd 0) = q at *
        unfold pick
        rw [a, ht]
        have : decide (q.turn < turn) = true := by simpa using e1
        dsimp only
        rw [this]; rfl
    rw [p, if_neg]
    rintro ⟨h, _⟩
    exact h0 h

/-- What a disk's sectors bear, and all that keeps it so. -/
structure Good (rd : Nat → ByteArray) (n turn : Nat) (idx : List Nat) (tab : Tab) : Prop where
  n0 : 2 ≤ n
  n1 : n ≤ 4096
  chain : ChainAt rd n idx (rowBytes tab)
  ok : ∀ x ∈ tab, EntOK x
  rising : RisingK tab
  nodup : (idx ++ allSecs tab).Nodup
  rng : ∀ a ∈ idx ++ allSecs tab, 2 ≤ a ∧ a < n
  heads : HeadsAt rd turn (idx.headD 0) (rowBytes tab).length
  tlt : turn < 1000000
  none : turn = 0 → tab = []
  size : ∀ a, a < n → (rd a).size = 64

theorem nodup_len : ∀ {l m : List Nat}, l.Nodup → (∀ a ∈ l, a ∈ m) → l.length ≤ m.length
  | [], _, _, _ => Nat.zero_le _
  | a :: l, m, hn, h => by
    rw [List.nodup_cons] at hn
    have ha := h a (by simp)
    have ih := nodup_len (m := m.erase a) hn.2 (fun b hb => (List.mem_erase_of_ne (fun e : b = a => hn.1 (e ▸ hb))).2 (h b (by simp [hb])))
    rw [List.length_erase_of_mem ha] at ih
    have : 0 < m.length := List.length_pos_of_mem ha
    rw [List.length_cons]
    omega
theorem le_of_nodup_range {l : List Nat} {n : Nat} (hn : l.Nodup) (hl : ∀ a ∈ l, a < n) : l.length ≤ n := by
  have h1 := nodup_len (m := List.range n) hn (fun a ha => List.mem_range.2 (hl a ha))
  rwa [List.length_range] at h1

theorem manyOf_le {a n : Nat} (h : manyOf a 58 ≤ n) : a ≤ 58 * n := by unfold manyOf at h; omega
theorem Good.few {rd : Nat → ByteArray} {n turn : Nat} {idx : List Nat} {tab : Tab} (h : Good rd n turn idx tab) : (idx ++ allSecs tab).length ≤ n := le_of_nodup_range h.nodup (fun a ha => (h.rng a ha).2)
theorem Good.rowLen {rd : Nat → ByteArray} {n turn : Nat} {idx : List Nat} {tab : Tab} (h : Good rd n turn idx tab) : (rowBytes tab).length ≤ 237568 := by
  have h1 := h.chain.many
  have h2 := h.few
  have := h.n1
  rw [List.length_append] at h2
  have := manyOf_le (a := (rowBytes tab).length) (n := 4096) (by omega)
  omega
theorem Good.bears {rd : Nat → ByteArray} {n turn : Nat} {idx : List Nat} {tab : Tab} (h : Good rd n turn idx tab) : Bears rd n turn idx tab where
  head := by
    have h1 := h.rowLen
    have h2 := h.tlt
    refine headF_of h.heads (by omega) ?_ (by omega)
    cases idx with
    | nil => simp
    | cons a r => have := (h.rng a (by simp)).2; have := h.n1; simp; omega
  chain := h.chain
  ok := h.ok
  rising := h.rising
  len := by have := h.rowLen; omega
  few := by
    have h2 := h.few
    rw [List.length_append] at h2
    omega

theorem blobOf_congr {rd rd' : Nat → ByteArray} {e : Ent} (h : ∀ a ∈ e.secs, rd' a = rd a) : blobOf rd' e = blobOf rd e := by unfold blobOf; rw [secBytes_congr h]
theorem mem_allSecs {t : Tab} {x : List UInt8 × Ent} (hx : x ∈ t) {a : Nat} (ha : a ∈ x.2.secs) : a ∈ allSecs t := List.mem_flatMap.2 ⟨x, hx, ha⟩
/-- Where the sectors that count are as they were, all is. -/
theorem Good.congr {rd rd' : Nat → ByteArray} {n turn : Nat} {idx : List Nat} {tab : Tab} (h : Good rd n turn idx tab) (h0 : rd' 0 = rd 0) (h1 : rd' 1 = rd 1) (he : ∀ a ∈ idx ++ allSecs tab, rd' a = rd a) (hs : ∀ a, a < n → (rd' a).size = 64) :
    Good rd' n turn idx tab ∧ gMap (blobOf rd') tab = gMap (blobOf rd) tab := by
  refine ⟨⟨h.n0, h.n1, h.chain.congr (fun a ha => he a (by simp [ha])), h.ok, h.rising, h.nodup, h.rng, ?_, h.tlt, h.none, hs⟩, gMap_congr fun x hx => blobOf_congr fun a ha => he a (by simp [mem_allSecs hx ha])⟩
  have hh := h.heads
  unfold HeadsAt at *
  have e : ∀ k, rd' (k % 2) = rd (k % 2) := fun k => by
    rcases Nat.mod_two_eq_zero_or_one k with hm | hm <;> rw [hm] <;> assumption
  rw [h0, h1, e, e]
  exact hh

/-- The free sectors. -/
def freeOf (n : Nat) (idx : List Nat) (tab : Tab) : List Nat := (List.range n).filter fun p => decide (2 ≤ p) && !(idx ++ allSecs tab).contains p

/-- What a plan writes: the blobs. -/
def planGo : List PutM → List Nat → KV → Tab → Option (List Nat × KV × Tab)
  | [], F, ws, t => some (F, ws, t)
  | p :: r, F, ws, t =>
    if p.gone = true then planGo r F ws (gDel p.key t)
    else if manyOf p.blob.length 64 ≤ F.length then planGo r (F.drop (manyOf p.blob.length 64)) (chunkPut ws (F.take (manyOf p.blob.length 64)) p.blob) (gPut p.key ⟨p.blob.length, F.take (manyOf p.blob.length 64)⟩ t)
    else none

abbrev MpL := KL (List UInt8)
def mpPut (m : MpL) (p : PutM) : MpL := if p.gone = true then gDel p.key m else gPut p.key p.blob m
def mpPuts (m : MpL) (l : List PutM) : MpL := l.foldl mpPut m

/-- A plan under way. -/
structure PlanInv (rd : Nat → ByteArray) (n : Nat) (idx U : List Nat) (F : List Nat) (ws : KV) (tab : Tab) (m : MpL) : Prop where
  nodupF : F.Nodup
  free : ∀ a ∈ F, 2 ≤ a ∧ a < n ∧ a ∉ U
  wsok : WsOK ws (fun a => 2 ≤ a ∧ a < n ∧ a ∉ U ∧ a ∉ F)
  ok : ∀ x ∈ tab, EntOK x
  rising : RisingK tab
  nodup : (allSecs tab).Nodup
  rng : ∀ a ∈ allSecs tab, 2 ≤ a ∧ a < n ∧ a ∉ F
  blobs : gMap (blobOf (ov ws rd)) tab = m
  small : ∀ x ∈ tab, x.2.size ≤ 131072 ∧ x.1.length ≤ 300

theorem allSecs_del (k : List UInt8) (t : Tab) : (allSecs (gDel k t)).Sublist (allSecs t) := by
  unfold allSecs
  induction t with
  | nil => exact .refl _
  | cons a t ih =>
    unfold gDel at *
    rw [List.filter_cons]
    split
    · rw [List.flatMap_cons, List.flatMap_cons]
      exact ih.append_left _
    · rw [List.flatMap_cons]
      exact ih.trans (List.sublist_append_right _ _)
theorem allSecs_put (k : List UInt8) (e : Ent) (t : Tab) : (allSecs (gPut k e t)).Perm (e.secs ++ allSecs (gDel k t)) := by
  have := (gPut_perm k e t).flatMap_right (·.2.secs)
  unfold allSecs
  rwa [List.flatMap_cons] at this

theorem PlanInv.step {rd : Nat → ByteArray} {n : Nat} (hn : n ≤ 4096) {idx U : List Nat} {F : List Nat} {ws : KV} {tab : Tab} {m : MpL} (h : PlanInv rd n idx U F ws tab m) (p : PutM) (hk : p.key.length ≠ 0 ∧ p.key.length ≤ 300) (hb : p.blob.length ≤ 131072) (hg : p.gone = false) (hr : manyOf p.blob.length 64 ≤ F.length) :
    PlanInv rd n idx U (F.drop (manyOf p.blob.length 64)) (chunkPut ws (F.take (manyOf p.blob.length 64)) p.blob) (gPut p.key ⟨p.blob.length, F.take (manyOf p.blob.length 64)⟩ tab) (mpPut m p) := by
  have hpl : (F.take (manyOf p.blob.length 64)).length = manyOf p.blob.length 64 := List.length_take_of_le hr
  have hsplit : F.take (manyOf p.blob.length 64) ++ F.drop (manyOf p.blob.length 64) = F := List.take_append_drop _ _
  generalize F.take (manyOf p.blob.length 64) = P at *
  generalize F.drop (manyOf p.blob.length 64) = Q at *
  subst hsplit
  have hnd := List.nodup_append.1 h.nodupF
  have hP : ∀ a ∈ P, 2 ≤ a ∧ a < n ∧ a ∉ U := fun a ha => h.free a (by simp [ha])
  have hdel := allSecs_del p.key tab
  refine ⟨hnd.2.1, fun a ha => h.free a (by simp [ha]), ?_, fun x hx => ?_, h.rising.put _ _, ?_, fun a ha => ?_, ?_, fun x hx => ?_⟩
  · refine WsOK.chunk P _ (h.wsok.mono fun a ha => ⟨ha.1, ha.2.1, ha.2.2.1, fun e => ha.2.2.2 (by simp [e])⟩) (fun a ha => ⟨⟨(hP a ha).1, (hP a ha).2.1, (hP a ha).2.2, fun e => hnd.2.2 a ha a e rfl⟩, by have := (hP a ha).2.1; omega⟩)
  · rcases gPut_mem hx with rfl | ⟨hx, _⟩
    · refine ⟨by dsimp only; omega, by dsimp only; omega, by dsimp only; omega, ?_, fun a ha => by have := (hP a ha).2.1; omega⟩
      dsimp only
      rw [hpl]; rfl
    · exact h.ok x hx
  · rw [(allSecs_put _ _ _).nodup_iff, List.nodup_append]
    refine ⟨hnd.1, h.nodup.sublist hdel, fun a ha b hb e => ?_⟩
    subst e
    exact (h.rng a (hdel.subset hb)).2.2 (by simp [show a ∈ P from ha])
  · rcases List.mem_append.1 ((allSecs_put _ _ _).mem_iff.1 ha) with ha | ha
    · exact ⟨(hP a ha).1, (hP a ha).2.1, fun e => hnd.2.2 a ha a e rfl⟩
    · have := h.rng a (hdel.subset ha)
      exact ⟨this.1, this.2.1, fun e => this.2.2 (by simp [e])⟩
  · rw [gPut_map]
    have e1 : blobOf (ov (chunkPut ws P p.blob) rd) ⟨p.blob.length, P⟩ = p.blob := secBytes_chunk P ws p.blob hnd.1 (fun a ha => by have := (hP a ha).2.1; omega) hpl
    have e2 : gMap (blobOf (ov (chunkPut ws P p.blob) rd)) tab = m := by
      rw [← h.blobs]
      refine gMap_congr fun x hx => blobOf_congr fun a ha => ?_
      have hr := h.rng a (mem_allSecs hx ha)
      have h6 : a < 65536 := by omega
      exact ov_chunk P ws _ (fun a ha => by have := (hP a ha).2.1; omega) h6 (fun e => hr.2.2 (List.mem_append.2 (.inl e)))
    rw [e1, e2, mpPut, if_neg (by simp [hg])]
  · rcases gPut_mem hx with rfl | ⟨hx, _⟩
    · exact ⟨hb, hk.2⟩
    · exact h.small x hx
theorem PlanInv.del {rd : Nat → ByteArray} {n : Nat} {idx U : List Nat} {F : List Nat} {ws : KV} {tab : Tab} {m : MpL} (h : PlanInv rd n idx U F ws tab m) (p : PutM) (hg : p.gone = true) :
    PlanInv rd n idx U F ws (gDel p.key tab) (mpPut m p) := by
  have hdel := allSecs_del p.key tab
  refine ⟨h.nodupF, h.free, h.wsok, fun x hx => h.ok x (gDel_mem hx).1, h.rising.del _, h.nodup.sublist hdel, fun a ha => h.rng a (hdel.subset ha), ?_, fun x hx => h.small x (gDel_mem hx).1⟩
  rw [gDel_map, h.blobs, mpPut, if_pos hg]

theorem mayGo_cons {had : List (List UInt8)} {p : PutM} {r : List PutM} (h : mayGo had (p :: r) = true) : p.key.length ≠ 0 ∧ p.key.length ≤ 300 ∧ p.key ∉ had ∧ p.blob.length ≤ 131072 ∧ mayGo (p.key :: had) r = true := by
  rw [mayGo] at h
  split at h
  · cases h
  · rename_i hn
    simp only [not_or] at hn
    exact ⟨hn.1, by omega, by simpa using hn.2.2.1, by omega, h⟩

theorem planGo_inv {rd : Nat → ByteArray} {n : Nat} (hn : n ≤ 4096) {idx U : List Nat} : ∀ (l : List PutM) (had : List (List UInt8)) {F : List Nat} {ws : KV} {tab : Tab} {m : MpL} {r : List Nat × KV × Tab}, PlanInv rd n idx U F ws tab m → mayGo had l = true → planGo l F ws tab = some r →
    PlanInv rd n idx U r.1 r.2.1 r.2.2 (mpPuts m l)
  | [], _, F, ws, tab, m, r, h, _, hp => by
    rw [planGo] at hp
    obtain rfl := Option.some.inj hp
    exact h
  | p :: l, had, F, ws, tab, m, r, h, hm, hp => by
    obtain ⟨h1, h2, h3, h4, h5⟩ := mayGo_cons hm
    rw [planGo] at hp
    split at hp
    · rename_i hg
      exact planGo_inv hn l _ (h.del p hg) h5 hp
    · rename_i hg
      split at hp
      · rename_i hr
        exact planGo_inv hn l _ (h.step hn p ⟨h1, h2⟩ h4 (by simpa using hg) hr) h5 hp
      · cases hp

theorem freeOf_mem {n : Nat} {idx : List Nat} {tab : Tab} {a : Nat} (h : a ∈ freeOf n idx tab) : 2 ≤ a ∧ a < n ∧ a ∉ idx ++ allSecs tab := by
  unfold freeOf at h
  rw [List.mem_filter, List.mem_range, Bool.and_eq_true, decide_eq_true_eq] at h
  exact ⟨h.2.1, h.1, by simpa using h.2.2⟩
theorem PlanInv.start {rd : Nat → ByteArray} {n turn : Nat} {idx : List Nat} {tab : Tab} (h : Good rd n turn idx tab) (hs : ∀ x ∈ tab, x.2.size ≤ 131072 ∧ x.1.length ≤ 300) : PlanInv rd n idx (idx ++ allSecs tab) (freeOf n idx tab) [] tab (gMap (blobOf rd) tab) where
  nodupF := List.Nodup.sublist List.filter_sublist List.nodup_range
  free := fun a ha => freeOf_mem ha
  wsok := WsOK.nil _
  ok := h.ok
  rising := h.rising
  nodup := (List.nodup_append.1 h.nodup).2.1
  rng := fun a ha => ⟨(h.rng a (by simp [ha])).1, (h.rng a (by simp [ha])).2, fun e => (freeOf_mem e).2.2 (by simp [ha])⟩
  blobs := by rw [ov_nil]
  small := hs

/-- A commit's answer. -/
structure Plan where
  idx : List Nat
  ws : KV
  tab : Tab
def planned (n : Nat) (idx : List Nat) (tab : Tab) (l : List PutM) : Option Plan :=
  match planGo l (freeOf n idx tab) [] tab with
  | none => none
  | some (F, ws, t) => if manyOf (rowBytes t).length 58 ≤ F.length then some ⟨F.take (manyOf (rowBytes t).length 58), rowChunks ws (F.take (manyOf (rowBytes t).length 58)) (rowBytes t), t⟩ else none

theorem planned_ok {rd : Nat → ByteArray} {n turn : Nat} {idx : List Nat} {tab : Tab} (h : Good rd n turn idx tab) (hs : ∀ x ∈ tab, x.2.size ≤ 131072 ∧ x.1.length ≤ 300) {l : List PutM} (hm : mayF l = true) {p : Plan} (hp : planned n idx tab l = some p) (ht : turn + 1 < 1000000) :
    WsOK p.ws (fun a => 2 ≤ a ∧ a < n ∧ a ∉ idx ++ allSecs tab) ∧ (∀ x ∈ p.tab, x.2.size ≤ 131072 ∧ x.1.length ≤ 300) ∧
    ∀ rd' : Nat → ByteArray, (∀ a, 2 ≤ a → a < n → rd' a = ov p.ws rd a) → rd' ((turn + 1) % 2) = headB (turn + 1) (p.idx.headD 0) (rowBytes p.tab).length → rd' (turn % 2) = rd (turn % 2) → (∀ a, a < n → (rd' a).size = 64) →
      Good rd' n (turn + 1) p.idx p.tab ∧ gMap (blobOf rd') p.tab = mpPuts (gMap (blobOf rd) tab) l := by
  unfold planned at hp
  split at hp
  · cases hp
  · rename_i F ws t hgo
    split at hp
    · rename_i hroom
      obtain rfl := Option.some.inj hp
      dsimp only
      have inv := planGo_inv h.n1 l [] (PlanInv.start h hs) hm hgo
      dsimp only at inv
      have hn1 := h.n1
      have hpl : (F.take (manyOf (rowBytes t).length 58)).length = manyOf (rowBytes t).length 58 := List.length_take_of_le hroom
      have hsplit : F.take (manyOf (rowBytes t).length 58) ++ F.drop (manyOf (rowBytes t).length 58) = F := List.take_append_drop _ _
      generalize F.take (manyOf (rowBytes t).length 58) = P at *
      generalize F.drop (manyOf (rowBytes t).length 58) = Q at *
      subst hsplit
      have hnd := List.nodup_append.1 inv.nodupF
      have hP : ∀ a ∈ P, 2 ≤ a ∧ a < n ∧ a ∉ idx ++ allSecs tab := fun a ha => inv.free a (by simp [ha])
      have hP6 : ∀ a ∈ P, a < 65536 := fun a ha => by have := (hP a ha).2.1; omega
      refine ⟨WsOK.row P _ (inv.wsok.mono fun a ha => ⟨ha.1, ha.2.1, ha.2.2.1⟩) (fun a ha => ⟨hP a ha, hP6 a ha⟩), inv.small, fun rd' hov hh ho hsz => ?_⟩
      have hblob : gMap (blobOf rd') t = mpPuts (gMap (blobOf rd) tab) l := by
        rw [← inv.blobs]
        refine gMap_congr fun x hx => blobOf_congr fun a ha => ?_
        have hr := inv.rng a (mem_allSecs hx ha)
        have h6 : a < 65536 := by omega
        rw [hov a hr.1 hr.2.1]
        exact ov_row P _ _ hP6 h6 (fun e => hr.2.2 (List.mem_append.2 (.inl e)))
      refine ⟨⟨h.n0, h.n1, (chain_row (by omega) P ws (rowBytes t) hnd.1 (fun a ha => ⟨(hP a ha).1, (hP a ha).2.1⟩) hpl).congr (fun a ha => hov a (hP a ha).1 (hP a ha).2.1), inv.ok, inv.rising, ?_, fun a ha => ?_, ?_, ht, by omega, hsz⟩, hblob⟩
      · rw [List.nodup_append]
        exact ⟨hnd.1, inv.nodup, fun a ha b hb e => by subst e; exact (inv.rng a hb).2.2 (by simp [ha])⟩
      · rcases List.mem_append.1 ha with ha | ha
        · exact ⟨(hP a ha).1, (hP a ha).2.1⟩
        · exact ⟨(inv.rng a ha).1, (inv.rng a ha).2.1⟩
      · unfold HeadsAt
        rw [if_neg (by omega)]
        refine ⟨hh, fun hok => ?_⟩
        have e2 : (turn + 1 + 1) % 2 = turn % 2 := by omega
        rw [e2, ho] at hok ⊢
        have hh0 := h.heads
        unfold HeadsAt at hh0
        split at hh0
        · rename_i h0
          subst h0
          rw [show (0 : Nat) % 2 = 0 from rfl, hh0.1, topOf_zero] at hok
          cases hok
        · rename_i h0
          have hat : idx.headD 0 < 65536 := by
            cases idx with
            | nil => simp
            | cons a r => have := (h.rng a (by simp)).2; simp; omega
          have := h.rowLen
          have := h.tlt
          rw [hh0.1, topOf_head (by omega) (by omega) hat (by omega)]
          dsimp only
          omega
    · cases hp
end Go.Proofs.Obj

/- P4 -/
/-
  There is room for a commit, in plain words: of no program.
-/
namespace Go.Proofs.Obj
open Go Go.RowKit

/-- What a map needs. -/
def needOf (m : MpL) : Nat := (m.map fun x => 2 + (x.1.length + x.2.length) / 32).sum
def secsLen (m : MpL) : Nat := (m.map fun x => manyOf x.2.length 64).sum
def rowLenOf (m : MpL) : Nat := (m.map fun x => 6 + x.1.length + 2 * manyOf x.2.length 64).sum
def putSecs (l : List PutM) : Nat := (l.map fun p => if p.gone = true then 0 else manyOf p.blob.length 64).sum

theorem need_entry (m : MpL) : rowLenOf m + 58 * secsLen m ≤ 174 * needOf m := by
  unfold rowLenOf secsLen needOf
  induction m with
  | nil => simp
  | cons x m ih =>
    simp only [List.map_cons, List.sum_cons]
    have : 6 + x.1.length + 2 * manyOf x.2.length 64 + 58 * manyOf x.2.length 64 ≤ 174 * (2 + (x.1.length + x.2.length) / 32) := by unfold manyOf; omega
    omega

theorem blobOf_length {rd : Nat → ByteArray} {n : Nat} {e : Ent} (hs : ∀ a, a < n → (rd a).size = 64) (ha : ∀ a ∈ e.secs, a < n) (hl : e.secs.length = (e.size + 64 - 1) / 64) : (blobOf rd e).length = e.size := by
  have h : ∀ l : List Nat, (∀ a ∈ l, a < n) → (secBytes rd l).length = 64 * l.length := by
    intro l
    induction l with
    | nil => intro _; rfl
    | cons a l ih =>
      intro h
      have e : secBytes rd (a :: l) = (rd a).data.toList ++ secBytes rd l := by simp [secBytes]
      have h1 : (rd a).data.toList.length = 64 := by simpa using hs a (h a (by simp))
      rw [e, List.length_append, ih (fun x hx => h x (by simp [hx])), h1, List.length_cons]
      omega
  unfold blobOf
  rw [List.length_take, h _ ha, hl]
  omega

theorem sizes_of {rd : Nat → ByteArray} {n : Nat} (hs : ∀ a, a < n → (rd a).size = 64) : ∀ {tab : Tab}, (∀ x ∈ tab, EntOK x) → (∀ a ∈ allSecs tab, a < n) →
    (allSecs tab).length = secsLen (gMap (blobOf rd) tab) ∧ (rowBytes tab).length = rowLenOf (gMap (blobOf rd) tab)
  | [], _, _ => ⟨rfl, rfl⟩
  | x :: t, ok, ha => by
    have ih := sizes_of hs (tab := t) (fun y hy => ok y (by simp [hy])) (fun a h => ha a (by unfold allSecs at *; rw [List.flatMap_cons]; simp [h]))
    obtain ⟨h1, h2, h3, h4, h5⟩ := ok x (by simp)
    have hb := blobOf_length hs (e := x.2) (fun a h => ha a (by unfold allSecs; rw [List.flatMap_cons]; simp [h])) h4
    have e0 : (x.2.secs.flatMap (littleL · 2)).length = 2 * x.2.secs.length := by
      generalize x.2.secs = l
      induction l with
      | nil => rfl
      | cons a l ih => rw [List.flatMap_cons, List.length_append, ih, littleL_length, List.length_cons]; omega
    have e1 : (entBytes x).length = 6 + x.1.length + 2 * x.2.secs.length := by
      unfold entBytes
      simp only [List.length_append, littleL_length, e0]
      omega
    constructor
    · unfold allSecs secsLen gMap at *
      rw [List.flatMap_cons, List.length_append, ih.1]
      simp only [List.map_cons, List.sum_cons]
      rw [hb, h4]; rfl
    · unfold rowBytes rowLenOf gMap at *
      rw [List.flatMap_cons, List.length_append, ih.2, e1]
      simp only [List.map_cons, List.sum_cons]
      rw [hb, h4]; rfl

theorem planGo_room : ∀ (l : List PutM) {F : List Nat} (ws : KV) (tab : Tab), putSecs l ≤ F.length → ∃ r, planGo l F ws tab = some r ∧ r.1.length = F.length - putSecs l
  | [], F, ws, tab, _ => ⟨_, rfl, by simp [putSecs]⟩
  | p :: l, F, ws, tab, h => by
    unfold putSecs at h
    rw [List.map_cons, List.sum_cons] at h
    rw [planGo]
    by_cases hg : p.gone = true
    · rw [if_pos hg]
      rw [if_pos hg] at h
      obtain ⟨r, h1, h2⟩ := planGo_room l (F := F) ws (gDel p.key tab) (by unfold putSecs; omega)
      refine ⟨r, h1, ?_⟩
      rw [h2]
      unfold putSecs
      rw [List.map_cons, List.sum_cons, if_pos hg, Nat.zero_add]
    · rw [if_neg hg]
      rw [if_neg hg] at h
      rw [if_pos (by omega)]
      obtain ⟨r, h1, h2⟩ := planGo_room l (F := F.drop (manyOf p.blob.length 64)) (chunkPut ws (F.take (manyOf p.blob.length 64)) p.blob) (gPut p.key ⟨p.blob.length, F.take (manyOf p.blob.length 64)⟩ tab) (by rw [List.length_drop]; unfold putSecs; omega)
      refine ⟨r, h1, ?_⟩
      rw [h2, List.length_drop]
      unfold putSecs
      rw [List.map_cons, List.sum_cons, if_neg hg]
      omega

/-- Of the keys that were named, what is put is there. -/
def keptLen (m : MpL) (K : List (List UInt8)) : Nat := secsLen (m.filter fun x => K.contains x.1)
theorem secsLen_perm {m m' : MpL} (h : m.Perm m') : secsLen m = secsLen m' := (h.map _).sum_nat
theorem secsLen_sub {m m' : MpL} (h : m.Sublist m') : secsLen m ≤ secsLen m' := by
  unfold secsLen
  induction h with
  | slnil => simp
  | cons a _ ih => simp only [List.map_cons, List.sum_cons]; omega
  | cons_cons a _ ih => simp only [List.map_cons, List.sum_cons]; omega
theorem filter_del {m : MpL} {k : List UInt8} {K : List (List UInt8)} (hk : k ∉ K) : (gDel k m).filter (fun x => (k :: K).contains x.1) = m.filter fun x => K.contains x.1 := by
  unfold gDel
  rw [List.filter_filter]
  congr 1
  funext x
  by_cases h : x.1 = k
  · have : x.1 ∉ K := h ▸ hk
    simp [h, hk]
  · simp [h]
theorem kept_step (m : MpL) (p : PutM) {K : List (List UInt8)} (hk : p.key ∉ K) : keptLen m K + (if p.gone = true then 0 else manyOf p.blob.length 64) = keptLen (mpPut m p) (p.key :: K) := by
  unfold keptLen mpPut
  by_cases hg : p.gone = true
  · rw [if_pos hg, if_pos hg, filter_del hk, Nat.add_zero]
  · rw [if_neg hg, if_neg hg]
    have h1 := (gPut_perm p.key p.blob m).filter (fun x => (p.key :: K).contains x.1)
    rw [List.filter_cons_of_pos (by simp), filter_del hk] at h1
    rw [secsLen_perm h1]
    unfold secsLen
    rw [List.map_cons, List.sum_cons]
    dsimp only
    omega
theorem kept_all : ∀ (l : List PutM) (had : List (List UInt8)) (m : MpL), mayGo had l = true → keptLen m had + putSecs l ≤ secsLen (mpPuts m l)
  | [], had, m, _ => by
    have := secsLen_sub (List.filter_sublist (l := m) (p := fun x => had.contains x.1))
    show keptLen m had + 0 ≤ secsLen m
    exact this
  | p :: l, had, m, h => by
    obtain ⟨_, _, h3, _, h5⟩ := mayGo_cons h
    have := kept_all l (p.key :: had) (mpPut m p) h5
    have hs := kept_step m p h3
    have e : mpPuts m (p :: l) = mpPuts (mpPut m p) l := rfl
    unfold putSecs at this ⊢
    rw [List.map_cons, List.sum_cons, e]
    omega

theorem filter_two (f : Nat → Bool) : ∀ l : List Nat, l.length = (l.filter f).length + (l.filter fun a => !f a).length
  | [] => rfl
  | a :: l => by
    have ih := filter_two f l
    cases h : f a
    · rw [List.filter_cons_of_neg (by simp [h]), List.filter_cons_of_pos (by simp [h])]
      simp only [List.length_cons]; omega
    · rw [List.filter_cons_of_pos (by simp [h]), List.filter_cons_of_neg (by simp [h])]
      simp only [List.length_cons]; omega
theorem freeOf_len {n : Nat} {idx : List Nat} {tab : Tab} : n ≤ (freeOf n idx tab).length + 2 + (idx ++ allSecs tab).length := by
  unfold freeOf
  generalize idx ++ allSecs tab = U
  have h : ∀ l : List Nat, l.Nodup → l.length ≤ (l.filter fun p => decide (2 ≤ p) && !U.contains p).length + 2 + U.length := by
    intro l hl
    have h1 : (l.filter fun p => !(decide (2 ≤ p) && !U.contains p)).length ≤ ([0, 1] ++ U).length := by
      refine nodup_len (hl.sublist List.filter_sublist) fun a ha => ?_
      have := (List.mem_filter.1 ha).2
      simp only [Bool.not_eq_true', Bool.and_eq_false_iff, decide_eq_false_iff_not, Bool.not_eq_false', List.contains_eq_mem, decide_eq_true_eq] at this
      rcases this with h | h
      · have : a = 0 ∨ a = 1 := by omega
        rcases this with rfl | rfl <;> simp
      · simp [h]
    have h2 := filter_two (fun p => decide (2 ≤ p) && !U.contains p) l
    simp only [List.length_append, List.length_cons, List.length_nil] at h1
    omega
  have := h (List.range n) List.nodup_range
  rwa [List.length_range] at this

/-- As long as there is room by what is promised, a plan is made. -/
theorem planned_room {rd : Nat → ByteArray} {n turn : Nat} {idx : List Nat} {tab : Tab} (h : Good rd n turn idx tab) (hs : ∀ x ∈ tab, x.2.size ≤ 131072 ∧ x.1.length ≤ 300) {l : List PutM} (hm : mayF l = true)
    (hroom : 3 * (needOf (gMap (blobOf rd) tab) + needOf (mpPuts (gMap (blobOf rd) tab) l)) + 40 ≤ n) : ∃ p, planned n idx tab l = some p := by
  have hsz := sizes_of h.size h.ok (fun a ha => (h.rng a (by simp [ha])).2)
  have hsome : ∃ r, planned n idx tab l = r := ⟨_, rfl⟩
  have hk := kept_all l [] (gMap (blobOf rd) tab) hm
  have hn1 := need_entry (gMap (blobOf rd) tab)
  have hn2 := need_entry (mpPuts (gMap (blobOf rd) tab) l)
  have hi := h.chain.many
  have hf := freeOf_len (n := n) (idx := idx) (tab := tab)
  rw [List.length_append, hi, hsz.2, hsz.1] at hf
  unfold manyOf at hf
  obtain ⟨r, hr, hrl⟩ := planGo_room l (F := freeOf n idx tab) [] tab (by omega)
  have inv := planGo_inv h.n1 l [] (PlanInv.start h hs) hm hr
  have hszr : ∀ a, a < n → (ov r.2.1 rd a).size = 64 := by
    intro a ha
    unfold ov
    split
    · rename_i s hs
      unfold kvGet at hs
      obtain ⟨y, hy, hy2⟩ := Option.map_eq_some_iff.1 hs
      obtain ⟨b, s', hx, _, _, h3⟩ := inv.wsok.all y (List.mem_of_find?_eq_some hy)
      subst hx
      dsimp only at hy2
      cases hy2
      exact h3
    · exact h.size a ha
  have hs2 := sizes_of hszr inv.ok (fun a ha => (inv.rng a ha).2.1)
  rw [inv.blobs] at hs2
  unfold planned
  rw [hr]
  obtain ⟨F, ws, t⟩ := r
  dsimp only at *
  rw [if_pos (by rw [hs2.2, hrl]; unfold manyOf; omega)]
  exact ⟨_, rfl⟩
end Go.Proofs.Obj

/- U3 -/
/-
  A region that draws its order, within a round of a range over a function: walked as outside of it.
-/
namespace Go.Proofs.Obj
open Go Go.RowKit

theorem opIn_round {P : Program} {o : Oper} {a : Act} {w : World} {K : Act → World → Prop} {Q : Exit → Act → World → Prop} (l : Nat) (hnd : ∀ c, o.op ≠ .defer c) (h : o.wp P a w K Q) : o.wpIn (Fence.wide.inRound l) 0 P a w K Q := by
  refine ⟨fun _ _ => trivial, ?_⟩
  rw [show (Fence.wide.inRound l).round = some l from rfl, Oper.semAt_some l _ _ hnd]
  unfold Oper.wp at h
  generalize (execOp a.eval o).run P w = r at *
  cases r with
  | ok n w' =>
    cases n with
    | enter f args => exact ⟨fun h => by simp [Fence.inRound, Fence.wide] at h, (callsIn_wide (n := 0)).2 h⟩
    | row row args => exact ⟨fun h => by simp [Fence.inRound, Fence.wide] at h, fun c cs _ => let ⟨v, w', r, s⟩ := h c cs; ⟨v, w', r, stepsIn_wide.2 s⟩⟩
    | _ => first | exact h | exact h.elim
  | halt x w' => cases x <;> first | exact h | exact h.elim

def noDefer (ops : Array Oper) : Bool := ops.toList.all fun o => match o.op with | .defer _ => false | _ => true
theorem noDefer_at {ops : Array Oper} (h : noDefer ops = true) {i : Nat} {o : Oper} (ho : ops[i]? = some o) (c : Go.Call) : o.op ≠ .defer c := by
  intro e
  have hm : o ∈ ops.toList := by
    obtain ⟨hi, rfl⟩ := Array.getElem?_eq_some_iff.1 ho
    exact Array.getElem_mem_toList hi
  have := List.all_eq_true.1 h o hm
  rw [e] at this
  cases this

theorem anyIn_round {P : Program} {md : Region.Mode} {ops : Array Oper} {Q : Exit → Act → World → Prop} (l : Nat) (hnd : noDefer ops = true) (hQ : ¬ LetsOut Q) : ∀ (fuel : Nat) (listed : Array Bool) (a : Act) (w : World), wpAny P md ops Q fuel listed a w →
    wpAnyIn (Fence.wide.inRound l) 0 P md ops Q fuel listed a w
  | 0, _, _, _, h => h
  | fuel + 1, listed, a, w, h => by
    refine ⟨h.1, fun i hi => ?_⟩
    have h2 := h.2 i hi
    unfold wpOp at h2
    unfold wpOpIn
    split
    · rename_i ho
      rw [ho] at h2
      exact anyIn_round l hnd hQ fuel _ _ _ h2
    · rename_i o ho
      rw [ho] at h2
      dsimp only at h2
      split
      · rename_i hw
        rw [if_pos hw] at h2
        rcases h2 with h2 | h2
        · exact Oper.wpIn_mono (fun a w h => anyIn_round l hnd hQ fuel _ a w h) (opIn_round l (noDefer_at hnd ho) h2)
        · exact absurd h2.2 hQ
      · rename_i hw
        rw [if_neg hw] at h2
        exact ⟨fun _ _ => trivial, anyIn_round l hnd hQ fuel _ _ _ h2⟩

/-- THE RULE: S holds of the world behind the draw, and behind each operation that is carried out. -/
theorem region_round {P : Program} {id : Nat} {ops : Array Oper} {Q : Exit → Act → World → Prop} {a : Act} {w : World} {l : Nat} (S : World → Prop) (hm : P.follows .mixedOrders = true) (hnd : noDefer ops = true) (hQ : ¬ LetsOut Q) (hS : S w.drew)
    (h : S w.drew → wpAnyH P .any ops Q S ops.size (Array.replicate ops.size false) a w.drew) : (Code.region id ops true).wpIn (Fence.wide.inRound l) 0 P Q a w :=
  wpIn_region_any hm (anyIn_round l hnd hQ _ _ _ _ (wpAny_of_held _ _ _ _ (h hS)))
theorem not_letsOut {K : Act → World → Prop} {α : Type} (I : List α → (Nat → Prop) → World → Prop) (Ix : Code → List α → (Nat → Prop) → World → Prop) (pre : List α) (x : α) (M : Nat → Prop) (W : World) : ¬ LetsOut (Exit.then K (BPost I Ix pre x M W)) := by
  rintro ⟨a, w, h⟩
  exact h
end Go.Proofs.Obj
