/- What is proved here: maps. No condition but what each theorem says. -/
import Derived.Test.YtiiinmleiigckaaGreatDoorGW
import Derived.WalkLawsBesides
set_option linter.unusedVariables false
set_option linter.unusedSimpArgs false

/- L5 -/
namespace Go.Proofs.Obj
open Go Go.RowKit Go.Shelf

/-- Map.with: from an entry on; was it put in already? -/
def withG (p : PutM) : Bool → MpL → MpL
  | d, [] => if d = true then [] else [(p.key, p.blob)]
  | d, x :: r => (if d = false ∧ bytesBefore p.key x.1 = true then [(p.key, p.blob)] else []) ++ (if x.1 = p.key then [] else [x]) ++ withG p (d || bytesBefore p.key x.1) r
theorem withG_done (p : PutM) : ∀ m : MpL, withG p true m = gDel p.key m
  | [] => rfl
  | x :: m => by
    rw [withG, Bool.true_or, withG_done p m]
    unfold gDel
    rw [List.filter_cons]
    by_cases h : x.1 = p.key
    · simp [h]
    · simp [h]
theorem withG_put (p : PutM) : ∀ m : MpL, RisingK m → withG p false m = gPut p.key p.blob m
  | [], _ => rfl
  | x :: m, h => by
    have hr : RisingK m := by
      unfold RisingK Rising at h ⊢
      rw [List.map_cons, List.pairwise_cons] at h
      exact h.2
    have hx : ∀ y ∈ m, bytesBefore x.1 y.1 = true := by
      unfold RisingK Rising at h
      rw [List.map_cons, List.pairwise_cons] at h
      exact fun y hy => h.1 _ (List.mem_map.2 ⟨y, hy, rfl⟩)
    rw [withG]
    cases hb : bytesBefore p.key x.1
    · rw [if_neg (by simp), Bool.or_false, withG_put p m hr, List.nil_append]
      unfold gPut gDel
      rw [List.filter_cons]
      by_cases e : x.1 = p.key
      · rw [if_pos e, if_neg (by simp [e]), List.nil_append]
      · rw [if_neg e, if_pos (by simpa using e), gIns]
        dsimp only
        rw [hb]
        simp
    · have hne : x.1 ≠ p.key := fun e => by rw [e, bytesBefore_irrefl] at hb; cases hb
      rw [if_pos ⟨rfl, rfl⟩, if_neg hne, Bool.or_true, withG_done]
      unfold gPut gDel
      have hall : ∀ y ∈ m, y.1 ≠ p.key := fun y hy e => by
        have h1 := bytesBefore_trans hb (hx y hy)
        rw [e, bytesBefore_irrefl] at h1
        cases h1
      have hf : m.filter (fun q => !(q.1 == p.key)) = m := by
        rw [List.filter_eq_self]
        intro y hy
        simpa using hall y hy
      rw [List.filter_cons, if_pos (by simpa using hne), hf, gIns]
      dsimp only
      rw [hb]
      rfl
theorem with_mp {m : MpL} (p : PutM) (h : RisingK m) : withG p p.gone m = mpPut m p := by
  unfold mpPut
  cases hg : p.gone
  · rw [withG_put p m h]; rfl
  · rw [withG_done]; rfl

/-- 'append(v, x)' run, x laid just ahead. -/
theorem app_run {W : World} {v : Value} {n base : Nat} {l : List (List UInt8)} {k : List UInt8} {ad : Nat} (HO : W.ownsRow base 9 1 v n (keyCells l)) (hbase : base ≤ W.heap.size) (hl : (n + 1) * 16 ≤ 140737488355328) (hcell : W.cell? ⟨ad, 0, none⟩ = some (.string (S k))) :
    ∃ g cap W', (Builtin.append_ #[30, 30] 30 #[v, .slice (some ⟨ad, 0, none⟩) 1 1]).run Tryz.prog W = .ok (.slice (some ⟨g, 0, none⟩) (n + 1) cap) W' ∧ W'.ownsRow base 9 1 (.slice (some ⟨g, 0, none⟩) (n + 1) cap) (n + 1) (keyCells (l ++ [k])) ∧
      Chg (fun k => v.ownBlock = some k) W W' ∧ (v.ownBlock = some g ∨ W.heap.size ≤ g) := by
  obtain ⟨i0, hi, hz0, hz1, hz2⟩ := info_parts Tryz.info9
  have hm : n + 1 ≤ maxLen := by simp only [maxLen]; omega
  obtain ⟨v1, w1, hrun, hown, hg, _, hat⟩ := run_append_own_at (P := Tryz.prog) W base 30 30 9 i0 (.string ⟨#[]⟩) 1 16 Tryz.underlying30 hi hz0 hz1 hz2 rfl (by decide) v n (keyCells l) HO ⟨ad, 0, none⟩ 1 1 [.string (S k)] rfl (fun j u hj => by
    match j, hj with
    | 0, hj => simp at hj; subst hj; simpa [Addr.add] using hcell) (by intro u hu; simp at hu; subst hu; rfl) (by omega) hl hbase
  obtain ⟨g, cap, rfl⟩ := ownsRow_succ hown
  refine ⟨g, cap, w1, hrun, by simpa [keyCells] using hown, (Chg.refl _ W).grown hg (fun k _ e => e), ?_⟩
  rcases hat with hat | hat
  · exact .inl (by simpa [Value.ownBlock] using hat.symm)
  · simp [Value.ownBlock] at hat; exact .inr (by omega)
end Go.Proofs.Obj

/- L6 -/
namespace Go.Proofs.Obj
open Go Go.RowKit Go.Shelf

theorem bytesLess_eq : ∀ a b : List UInt8, Op.bytesLess a b = bytesBefore a b
  | [], [] => rfl
  | [], _ :: _ => rfl
  | _ :: _, [] => rfl
  | a :: s, b :: t => by
    have := bytesLess_eq s t
    simp only [Op.bytesLess, bytesBefore, this]
theorem strGtr (a b : List UInt8) : (!(Op.bytesLess (S a).toList (S b).toList || (S a).toList == (S b).toList)) = bytesBefore b a := by
  have e1 : (S a).toList = a := by rw [ByteArray.toList_eq]; rfl
  have e2 : (S b).toList = b := by rw [ByteArray.toList_eq]; rfl
  rw [e1, e2, bytesLess_eq]
  by_cases h : a = b
  · subst h; simp [bytesBefore_irrefl]
  · have hb : (a == b) = false := by simpa using h
    rw [hb, Bool.or_false]
    cases hl : bytesBefore a b
    · rw [bytesBefore_total hl h]; rfl
    · rw [bytesBefore_asymm hl]; rfl

theorem cell_one_drew (w : World) (v : Value) (t : TypeId) : ∀ (j : Nat) (u : Value), [v][j]? = some u → ((w.alloc (.cells #[v] t)).drew).cell? ((⟨w.heap.size, 0, none⟩ : Addr).add j) = some u := cell_one_new w v t
/-- The two rows of a map being built, in a block of their own. -/
structure WOut (w0 : World) (q : Nat) (ks bs : List (List UInt8)) (kv bv : Value) (W : World) : Prop where
  c : Same w0 W
  b : Blk W q 32 [kv, bv]
  k : W.ownsRow w0.heap.size 9 1 kv ks.length (keyCells ks)
  v : W.ownsRow w0.heap.size 9 1 bv bs.length (keyCells bs)
  ne : ∀ x, kv.ownBlock = some x → bv.ownBlock ≠ some x
  hq : w0.heap.size ≤ q
variable {w0 : World} {q : Nat} {ks bs : List (List UInt8)} {kv bv : Value} {W : World}
theorem WOut.same (h : WOut w0 q ks bs kv bv W) {W' : World} (k : Same W W') : WOut w0 q ks bs kv bv W' :=
  ⟨h.c.trans k, h.b.same k, own_chg h.k k (fun _ _ e => e), own_chg h.v k (fun _ _ e => e), h.ne, h.hq⟩
theorem WOut.len_k (h : WOut w0 q ks bs kv bv W) : ∃ A cap, kv = .slice A ks.length cap := own_form h.k
theorem WOut.len_v (h : WOut w0 q ks bs kv bv W) : ∃ A cap, bv = .slice A bs.length cap := own_form h.v
theorem WOut.kn (h : WOut w0 q ks bs kv bv W) {n : Nat} (hn : ks.length = n) : W.ownsRow w0.heap.size 9 1 kv n (keyCells ks) := hn ▸ h.k
theorem WOut.vn (h : WOut w0 q ks bs kv bv W) {n : Nat} (hn : bs.length = n) : W.ownsRow w0.heap.size 9 1 bv n (keyCells bs) := hn ▸ h.v
theorem WOut.key (h : WOut w0 q ks bs kv bv W) {k : List UInt8} {g cap n : Nat} {W' : World} (hn : ks.length = n) (hown : W'.ownsRow w0.heap.size 9 1 (.slice (some ⟨g, 0, none⟩) (n + 1) cap) (n + 1) (keyCells ks ++ [.string (S k)])) (hch : Chg (fun k => kv.ownBlock = some k) W W') (hg : kv.ownBlock = some g ∨ W.heap.size ≤ g) :
    W'.cell? ⟨q, 0, none⟩ = some kv ∧ W'.frozen? ⟨q, 0, none⟩ = false ∧ Same w0 W' ∧
      WOut w0 q (ks ++ [k]) bs (.slice (some ⟨g, 0, none⟩) (n + 1) cap) bv (W'.setCell ⟨q, 0, none⟩ (.slice (some ⟨g, 0, none⟩) (n + 1) cap)) ∧ Same w0 (W'.setCell ⟨q, 0, none⟩ (.slice (some ⟨g, 0, none⟩) (n + 1) cap)) := by
  subst hn
  have hbs := h.c.size
  have hb := h.b.chg hch (own_ne h.k h.b (by decide))
  have hv := own_chg h.v hch (fun x hx e => h.ne x e hx)
  have hs : Same w0 W' := h.c.trans' hch (fun _ _ e => e) (fun j hj e => by have := own_base h.k e; omega)
  have hlen : (ks ++ [k]).length = ks.length + 1 := by simp
  have k1 := Chg.set1 W' q 0 (.slice (some ⟨g, 0, none⟩) (ks.length + 1) cap)
  have hs2 := hs.trans' (U := fun _ => False) k1 (fun _ _ e => e) (fun j hj e => by have := h.hq; omega)
  have hown2 := own_chg hown k1 (fun x hx e => own_ne hown hb (by decide) (e ▸ hx))
  have hv2 := own_chg hv k1 (fun x hx e => own_ne hv hb (by decide) (e ▸ hx))
  refine ⟨hb.cell 0, hb.frozen 0, hs, ⟨hs2, hb.setCell 0 _, ?_, hv2, ?_, h.hq⟩, hs2⟩
  · rw [hlen]; simpa [keyCells] using hown2
  · intro x hx e
    simp only [Value.ownBlock, Option.some.injEq] at hx
    subst hx
    rcases hg with hg | hg
    · exact h.ne _ hg e
    · obtain ⟨c, hc2⟩ := own_type h.v e
      have := lt_of_at hc2
      omega
theorem WOut.val (h : WOut w0 q ks bs kv bv W) {k : List UInt8} {g cap n : Nat} {W' : World} (hn : bs.length = n) (hown : W'.ownsRow w0.heap.size 9 1 (.slice (some ⟨g, 0, none⟩) (n + 1) cap) (n + 1) (keyCells bs ++ [.string (S k)])) (hch : Chg (fun k => bv.ownBlock = some k) W W') (hg : bv.ownBlock = some g ∨ W.heap.size ≤ g) :
    W'.cell? ⟨q, 1, none⟩ = some bv ∧ W'.frozen? ⟨q, 1, none⟩ = false ∧ Same w0 W' ∧
      WOut w0 q ks (bs ++ [k]) kv (.slice (some ⟨g, 0, none⟩) (n + 1) cap) (W'.setCell ⟨q, 1, none⟩ (.slice (some ⟨g, 0, none⟩) (n + 1) cap)) ∧ Same w0 (W'.setCell ⟨q, 1, none⟩ (.slice (some ⟨g, 0, none⟩) (n + 1) cap)) := by
  subst hn
  have hbs := h.c.size
  have hb := h.b.chg hch (own_ne h.v h.b (by decide))
  have hv := own_chg h.k hch (fun x hx e => h.ne x hx e)
  have hs : Same w0 W' := h.c.trans' hch (fun _ _ e => e) (fun j hj e => by have := own_base h.v e; omega)
  have hlen : (bs ++ [k]).length = bs.length + 1 := by simp
  have k1 := Chg.set1 W' q 1 (.slice (some ⟨g, 0, none⟩) (bs.length + 1) cap)
  have hs2 := hs.trans' (U := fun _ => False) k1 (fun _ _ e => e) (fun j hj e => by have := h.hq; omega)
  have hown2 := own_chg hown k1 (fun x hx e => own_ne hown hb (by decide) (e ▸ hx))
  have hv2 := own_chg hv k1 (fun x hx e => own_ne hv hb (by decide) (e ▸ hx))
  refine ⟨hb.cell 1, hb.frozen 1, hs, ⟨hs2, hb.setCell 1 _, hv2, ?_, ?_, h.hq⟩, hs2⟩
  · rw [hlen]; simpa [keyCells] using hown2
  · intro x hx e
    simp only [Value.ownBlock, Option.some.injEq] at e
    subst e
    rcases hg with hg | hg
    · exact h.ne _ hx hg
    · obtain ⟨c, hc2⟩ := own_type h.k hx
      have := lt_of_at hc2
      omega
theorem WOut.snoc {out : MpL} {y : List UInt8 × List UInt8} (h : WOut w0 q (out.map (·.1) ++ [y.1]) (out.map (·.2) ++ [y.2]) kv bv W) : WOut w0 q ((out ++ [y]).map (·.1)) ((out ++ [y]).map (·.2)) kv bv W := by
  rw [List.map_append, List.map_append]; exact h
/-- Both slices of a map's value lie in blocks of P. -/
def AggFrom (P : Nat → Prop) (v : Value) : Prop := ∃ A1 n1 c1 A2 n2 c2, v = .agg #[.slice A1 n1 c1, .slice A2 n2 c2] ∧ (∀ a, A1 = some a → P a.block) ∧ (∀ a, A2 = some a → P a.block)
theorem AggFrom.mono {P Q : Nat → Prop} {v : Value} (h : AggFrom P v) (hpq : ∀ b, P b → Q b) : AggFrom Q v := by
  obtain ⟨A1, n1, c1, A2, n2, c2, hv, h1, h2⟩ := h
  exact ⟨A1, n1, c1, A2, n2, c2, hv, fun a e => hpq _ (h1 a e), fun a e => hpq _ (h2 a e)⟩
theorem TextsAt.chg {w w' : World} {A : Option Addr} {n c : Nat} {l : List (List UInt8)} (h : TextsAt w (.slice A n c) l) {S : Nat → Prop} (k : Chg S w w') (hn : ∀ a, A = some a → ¬ S a.block) : TextsAt w' (.slice A n c) l := by
  obtain ⟨A', cap, hv, h⟩ := h
  cases hv
  exact ⟨A, _, rfl, h.chg k hn⟩
theorem MapV.chg {w w' : World} {v : Value} {m : MpL} (h : MapV w v m) {P S : Nat → Prop} (hp : AggFrom P v) (k : Chg S w w') (hn : ∀ b, P b → ¬ S b) : MapV w' v m := by
  obtain ⟨A1, n1, c1, A2, n2, c2, rfl, h1, h2⟩ := hp
  obtain ⟨v1, v2, hv, t1, t2⟩ := h
  cases hv
  exact ⟨_, _, rfl, t1.chg k (fun a e => hn _ (h1 a e)), t2.chg k (fun a e => hn _ (h2 a e))⟩
theorem own_from {w : World} {base : Nat} {e : TypeId} {size n : Nat} {v : Value} {xs : List Value} (h : w.ownsRow base e size v n xs) : ∃ A c, v = .slice A n c ∧ ∀ a, A = some a → base ≤ a.block ∧ a.block < w.heap.size := by
  obtain ⟨A, c, rfl⟩ := own_form h
  refine ⟨A, c, rfl, fun a e => ?_⟩
  subst e
  rcases h.2 with ⟨he, _⟩ | ⟨g, cap, cur, he, _⟩
  · cases he
  · cases he
    obtain ⟨_, hc2⟩ := own_type h rfl
    exact ⟨own_base h rfl, lt_of_at hc2⟩
theorem WOut.fin {w : World} {q4 : Nat} {out : MpL} (h : WOut w0 q (out.map (·.1)) (out.map (·.2)) kv bv W) (k0 : Same w w0) (hq4 : w.heap.size ≤ q4) (hb : Blk W q4 32 [.slice none 0 0, .slice none 0 0]) :
    Blk ((W.setCell ⟨q4, 0, none⟩ kv).setCell ⟨q4, 1, none⟩ bv) q4 32 [kv, bv] ∧ MapV ((W.setCell ⟨q4, 0, none⟩ kv).setCell ⟨q4, 1, none⟩ bv) (.agg #[kv, bv]) out ∧ AggFrom (fun b => w.heap.size ≤ b ∧ b < ((W.setCell ⟨q4, 0, none⟩ kv).setCell ⟨q4, 1, none⟩ bv).heap.size) (.agg #[kv, bv]) ∧ Same w ((W.setCell ⟨q4, 0, none⟩ kv).setCell ⟨q4, 1, none⟩ bv) := by
  have k1 := Chg.put2 W q4 kv bv
  have hbf := hb.put2 kv bv
  refine ⟨hbf, ⟨kv, bv, rfl, TextsAt.of_own (own_chg h.k k1 (fun x hx e => own_ne h.k hb (by decide) (e ▸ hx))), TextsAt.of_own (own_chg h.v k1 (fun x hx e => own_ne h.v hb (by decide) (e ▸ hx)))⟩, ?_⟩
  refine ⟨?_, (k0.trans h.c).trans' (U := fun _ => False) k1 (fun _ _ e => e) (fun j hj e => by omega)⟩
  obtain ⟨A1, c1, rfl, h1⟩ := own_from h.k
  obtain ⟨A2, c2, rfl, h2⟩ := own_from h.v
  have := k0.size
  have hk := k1.size
  exact ⟨A1, _, c1, A2, _, c2, rfl, fun a e => ⟨Nat.le_trans this (h1 a e).1, Nat.lt_of_lt_of_le (h1 a e).2 hk⟩, fun a e => ⟨Nat.le_trans this (h2 a e).1, Nat.lt_of_lt_of_le (h2 a e).2 hk⟩⟩

end Go.Proofs.Obj
