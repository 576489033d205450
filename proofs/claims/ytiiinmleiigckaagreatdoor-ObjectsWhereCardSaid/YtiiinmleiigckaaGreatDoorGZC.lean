/- What is proved here: how arguments are opened. No condition but what each theorem says. -/
import Derived.Test.YtiiinmleiigckaaGreatDoorGZB
import Derived.Test.YtiiinmleiigckaaGreatDoorRows
import Derived.ProofKit
import Derived.OpenShut
import Derived.Deep.Slices
import Derived.SizedLaws
set_option linter.unusedVariables false
set_option linter.unusedSimpArgs false

/- E0 -/
/-
  How the laws' arguments are opened: slices of bytes, slices of slices of bytes.
-/
namespace Go.Proofs.Obj
open Go Go.RowKit Go.ChangeShapes Go.WideShapes Go.Deep

theorem cells5 : Tryz.prog.cellsOf 5 = 1 := by kernel_rfl
theorem cells38 : Tryz.prog.cellsOf 38 = 1 := by kernel_rfl
theorem bytes5 : Tryz.prog.bytesOf 5 = 1 := by kernel_rfl
theorem bytes38 : Tryz.prog.bytesOf 38 = 24 := by kernel_rfl
section
variable {H : Type} {enc : TypeId × Value → H} {W : World}

theorem u8_of {z : Int} (h : (Lit.int .u8 z).wf = true) : 0 ≤ z ∧ z ≤ 255 := by simpa [Lit.wf, IntKind.min, IntKind.max, IntKind.signed, IntKind.bits] using h
theorem u8s_of : ∀ zs : List Int, (∀ z ∈ zs, (Lit.int .u8 z).wf = true) → u8s (zs.map fun z => UInt8.ofNat z.toNat) = zs.map (.int .u8)
  | [], _ => rfl
  | z :: zs, h => by
    have h1 := u8_of (h z (by simp))
    have h2 := u8s_of zs (fun y hy => h y (by simp [hy]))
    unfold u8s at h2 ⊢
    rw [List.map_cons, List.map_cons, List.map_cons, h2]
    congr 2
    rw [UInt8.toNat_ofNat']
    omega

open Go.Proofs.YtiiinmleiigckaaGreatDoor in
theorem bulk_len : ∀ l : List (DataW H), l.length ≤ Rows.uptoBulkAll l
  | [] => Nat.zero_le _
  | d :: r => by
    have h1 : 1 ≤ Rows.uptoBulk d := by
      cases d with
      | lit l => cases l <;> simp [Rows.uptoBulk]
      | nil => simp [Rows.uptoBulk]
      | ptr d => simp [Rows.uptoBulk]
      | slice elems spare => simp [Rows.uptoBulk]
      | agg parts => simp [Rows.uptoBulk]
      | iface t d => simp [Rows.uptoBulk]
      | map entries => simp [Rows.uptoBulk]
      | held h => simp [Rows.uptoBulk]
    have := bulk_len r
    simp only [Rows.uptoBulkAll, List.length_cons]; omega
open Go.Proofs.YtiiinmleiigckaaGreatDoor in
theorem bulk_part {d : DataW H} : ∀ {l : List (DataW H)}, d ∈ l → Rows.uptoBulk d ≤ Rows.uptoBulkAll l
  | [], h => by cases h
  | x :: r, h => by
    simp only [Rows.uptoBulkAll]
    rcases List.mem_cons.1 h with rfl | h
    · omega
    · have := bulk_part h; omega
open Go.Proofs.YtiiinmleiigckaaGreatDoor in
theorem bulk_of {l : List (DataW H)} (hk : Rows.uptoSmall H l = true) {d : DataW H} (h : d ∈ l) : Rows.uptoBulk d ≤ 1048576 := by
  have h1 := of_decide_eq_true hk
  have h2 := bulk_part h
  omega

/-- A slice of bytes, opened. -/
theorem open_bytes {fuel : Nat} {cs : List Value} {d : DataW H} {pl : List MemPlace} (h : DataW.trod enc Tryz.prog W 0 (fun _ => true) true fuel 38 cs = some (d, pl)) (hw : ∀ n ∈ d.weights Tryz.prog 38, n ≤ reachBytes) :
    ∃ v l, cs = [v] ∧ BytesAt W v l ∧ l.length ≤ 140737488355328 ∧ l.length ≤ Go.Proofs.YtiiinmleiigckaaGreatDoor.Rows.uptoBulk d := by
  rcases open_ints Tryz.underlying38 Tryz.underlying5 cells5 h with ⟨hcs, hx⟩ | ⟨a, len, cap, zs, hcs, _, hl, hm, hz, hx, hcell, hwz⟩
  · exact ⟨_, [], hcs, ⟨none, 0, rfl, .inl rfl⟩, by simp, by simp⟩
  · simp only [if_true] at hz
    obtain ⟨rfl, rfl⟩ := Prod.mk.inj hx
    have hlen : ((zs.take len).map fun z => UInt8.ofNat z.toNat).length = len := by simp; omega
    have hww := hw ((zs.take len).length + (zs.drop len).length) (by
      simp only [DataW.weights, Tryz.underlying38, bytes5]
      simp [lits])
    have hr : reachBytes ≤ 140737488355328 := by decide
    refine ⟨_, (zs.take len).map fun z => UInt8.ofNat z.toNat, hcs, ⟨some a, cap, by rw [hlen], ?_⟩, ?_, ?_⟩
    · rw [u8s_of _ (fun z hz => hwz z (List.mem_of_mem_take hz))]
      by_cases h0 : len = 0
      · left; simp [h0]
      · right
        obtain ⟨b, off, rfl, hc⟩ := ints_at hcell (by omega)
        refine ⟨b, off, rfl, fun j u hu => ?_⟩
        obtain ⟨hj, rfl⟩ := List.getElem?_eq_some_iff.1 hu
        simp at hj
        rw [hc j (by omega)]
        simp [List.getD, List.getElem?_eq_getElem (show j < zs.length by omega)]
    · rw [hlen]
      simp at hww
      omega
    · rw [hlen]
      have h1 := bulk_len (H := H) (lits .u8 (zs.take len))
      have h2 : (lits (H := H) .u8 (zs.take len)).length = len := by simp [lits]; omega
      simp only [Go.Proofs.YtiiinmleiigckaaGreatDoor.Rows.uptoBulk]
      omega

/-- A slice of slices of bytes, opened. -/
theorem open_byteRows {a0 : Option Addr} {len0 cap0 : Nat} {d : DataW H} {pl : List MemPlace} (h : DataW.Trod enc Tryz.prog W 0 (fun _ => true) true 22 (.slice a0 len0 cap0) d pl) (hw : ∀ n ∈ d.weights Tryz.prog 22, n ≤ reachBytes) :
    ∃ ls, ByteRows W (.slice a0 len0 cap0) ls ∧ ls.length ≤ 140737488355328 := by
  obtain ⟨fuel, hf⟩ := h
  rcases open_slice1 Tryz.underlying22 cells38 hf with ⟨hcs, hx⟩ | ⟨a, len, cap, m, n, V, D, Pl, hcs, _, hl, hm, hmm, hx, hV⟩
  · simp [Value.cells] at hcs
    obtain ⟨rfl, rfl, rfl⟩ := hcs
    exact ⟨[], ⟨none, 0, rfl, fun i hi => by simp at hi⟩, by simp⟩
  · simp [Value.cells] at hcs
    obtain ⟨rfl, rfl, rfl⟩ := hcs
    simp only [if_true] at hmm
    subst hmm
    obtain ⟨rfl, rfl⟩ := Prod.mk.inj hx
    have hr : reachBytes ≤ 140737488355328 := by decide
    have hww := hw ((((List.range len0).map D).length + ((List.range (m - len0)).map fun j => D (len0 + j)).length) * 24) (by
      simp only [DataW.weights, Tryz.underlying22, bytes38]
      simp)
    have hin : ∀ i, i < len0 → ∀ n ∈ (D i).weights Tryz.prog 38, n ≤ reachBytes := fun i hi n hn => hw n (by
      simp only [DataW.weights, Tryz.underlying22]
      refine List.mem_cons_of_mem _ (List.mem_append_left _ ?_)
      have hg : ∀ (l : List (DataW H)), D i ∈ l → n ∈ DataW.weightsAll Tryz.prog 38 l := by
        intro l
        induction l with
        | nil => intro h; simp at h
        | cons x l ih =>
          intro h
          simp only [DataW.weightsAll, List.mem_append]
          rcases List.mem_cons.1 h with rfl | h
          · exact .inl hn
          · exact .inr (ih h)
      exact hg _ (List.mem_map.2 ⟨i, by simpa using hi, rfl⟩))
    obtain ⟨f, hff⟩ := choose_lt (α := List UInt8) (n := len0) (p := fun i l => BytesAt W (V i) l ∧ l.length ≤ 140737488355328) (fun i hi => by
      obtain ⟨v, l, hv, hb, hl, _⟩ := open_bytes (hV i (by omega)).2 (hin i hi)
      cases hv
      exact ⟨l, hb, hl⟩)
    refine ⟨(List.range len0).map f, ⟨some a, m, by simp, fun i hi => ?_⟩, by simp at hww ⊢; omega⟩
    simp at hi
    have hc := (hV i (by omega)).1
    obtain ⟨b, off, spot⟩ := a
    have hspot : spot = none := by have := World.cell?_spot (hV 0 (by omega)).1; simpa [Addr.add] using this
    subst hspot
    rw [Go.WideShapes.add_plain] at hc
    exact ⟨b, off, V i, rfl, hc, by simpa using (hff i hi).1, by simpa using (hff i hi).2⟩

/-- A slice of bytes that came in. -/
theorem open_bytesV {a0 : Option Addr} {len0 cap0 : Nat} {d : DataW H} {pl : List MemPlace} (h : DataW.Trod enc Tryz.prog W 0 (fun _ => true) true 38 (.slice a0 len0 cap0) d pl) (hw : ∀ n ∈ d.weights Tryz.prog 38, n ≤ reachBytes) :
    ∃ l, BytesAt W (.slice a0 len0 cap0) l ∧ l.length ≤ 140737488355328 ∧ l.length ≤ Go.Proofs.YtiiinmleiigckaaGreatDoor.Rows.uptoBulk d := by
  obtain ⟨fuel, hf⟩ := h
  obtain ⟨v, l, hv, hb, hl, hl2⟩ := open_bytes hf hw
  simp [Value.cells] at hv
  subst hv
  exact ⟨l, hb, hl, hl2⟩
theorem u16_of {z : Int} (h : (Lit.int .u16 z).wf = true) : 0 ≤ z ∧ z ≤ 65535 := by simpa [Lit.wf, IntKind.min, IntKind.max, IntKind.signed, IntKind.bits] using h
theorem open_u16 {a : Int} (h : (Lit.int .u16 a).wf = true) : ∃ n : Nat, a = n ∧ n < 65536 := ⟨a.toNat, by have := u16_of h; omega, by have := u16_of h; omega⟩
/-- A byte. -/
theorem open_u8 {a : Int} (h : (Lit.int .u8 a).wf = true) : ∃ n : Nat, a = n ∧ n < 256 := ⟨a.toNat, by have := u8_of h; omega, by have := u8_of h; omega⟩

/-- What was there is as it was. -/
theorem Chg.below0 {w w' : World} (h : Same w w') : Below w.heap.size w w' := Chg.same_below h
theorem laidOutT : laidOutB Tryz.prog = true := by kernel_rfl
theorem ownT : ownKnob Tryz.prog.godebug = none := by kernel_rfl
end

def layFirst : Obj → Obj
  | .cells _ t frozen => .cells (Go.Pinned.utf8FirstZ.map fun (n : Nat) => Value.int .u8 (n : Int)).toArray t frozen
  | o => o
def layAccept : Obj → Obj
  | .cells _ t frozen => .cells #[.int .u8 128, .int .u8 191, .int .u8 160, .int .u8 191, .int .u8 128, .int .u8 159, .int .u8 144, .int .u8 191, .int .u8 128, .int .u8 143, .int .u8 0, .int .u8 0, .int .u8 0, .int .u8 0, .int .u8 0, .int .u8 0, .int .u8 0, .int .u8 0, .int .u8 0, .int .u8 0, .int .u8 0, .int .u8 0, .int .u8 0, .int .u8 0, .int .u8 0, .int .u8 0, .int .u8 0, .int .u8 0, .int .u8 0, .int .u8 0, .int .u8 0, .int .u8 0] t frozen
  | o => o
/-- A world for the witnesses: the settled one, the two tables holding what their text lays. -/
noncomputable def laidWorld (os : Os) : World :=
  { World.holding Tryz.prog os ⟨#[], #[], []⟩ with heap := ((World.holding Tryz.prog os ⟨#[], #[], []⟩).heap.modify 1 layFirst).modify 2 layAccept }
end Go.Proofs.Obj
