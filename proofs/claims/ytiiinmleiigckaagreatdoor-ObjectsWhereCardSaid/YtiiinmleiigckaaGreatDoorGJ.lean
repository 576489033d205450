/- What is proved here: contract of slices.Repeat. No condition but what each theorem says. -/
import Derived.Test.YtiiinmleiigckaaGreatDoorGF
import Derived.Laws.CopyOwn
import Derived.Laws.MakeOwn
import Derived.OwnWalk
import Derived.Deep.OwnRows
set_option linter.unusedVariables false
set_option linter.unusedSimpArgs false

/- O6 -/
namespace Go.Proofs.Obj
open Go Go.RowKit

def strs (l : List ByteArray) : List Value := l.map Value.string
theorem Tryz.info9 : (Tryz.prog.info? 9).map (fun i => (i.zero, i.size, i.bytes)) = some (some (.string ⟨#[]⟩), 1, 16) := by kernel_rfl

theorem madeCells_one (z : Value) (n : Nat) : madeCells #[z] n = (List.replicate n z).toArray := by
  apply Array.ext'
  simp [madeCells]
  exact List.eq_replicate_iff.2 ⟨by simp, by simp [Nat.mod_one]⟩

/-- 'make([]T, n)' of an element of one cell. -/
theorem make_eq {P : Program} (t e : TypeId) (z : Value) (bytes : Nat) (ht : P.underlying t = some (.slice e)) (hinfo : (P.info? e).map (fun i => (i.zero, i.size, i.bytes)) = some (some z, 1, bytes)) (hz1 : z.cells = #[z])
    (n : Nat) (hbytes : bytes * n ≤ 281474976710656) (h63 : n ≤ 9223372036854775807) (w : World) :
    (Instr.makeSlice t (.int .i64 (n : Int)) (.int .i64 (n : Int))).run P w = .ok (.slice (some ⟨w.heap.size, 0, none⟩) n n) (w.alloc (.cells (List.replicate n z).toArray e)) := by
  rw [run_make_row' t e z bytes ht hinfo hz1 .i64 .i64 n hbytes h63 w, madeCells_one]

theorem add_zero_off (g j : Nat) : (⟨g, 0, none⟩ : Addr).add j = ⟨g, j, none⟩ := by
  cases j <;> simp [Addr.add]

/-- n empty strings. -/
def empties (n : Nat) : List Value := List.replicate n (.string ⟨#[]⟩)

set_option maxRecDepth 100000 in
set_option maxHeartbeats 1000000 in
theorem repeat_spec {w : World} {b : Nat} {s : ByteArray} {cap : Nat} (hb : Blk w b 9 [.string s]) (c : Nat) (h1 : 1 ≤ c) (h2 : c ≤ 4096)
    (hmul : ∀ w, Calls Tryz.prog 63 #[.int .u64 1, .int .u64 c] w fun e w' => e = .returned (.tuple #[.int .u64 0, .int .u64 c]) ∧ w = w') :
    Calls Tryz.prog 38 #[.slice (some ⟨b, 0, none⟩) 1 cap, .int .i64 c] w fun e w' => ∃ g, e = .returned (.slice (some ⟨g, 0, none⟩) c c) ∧ w.heap.size ≤ g ∧ Blk w' g 9 (strs (List.replicate c s)) ∧ Same w w' := by
  have hmk : ∀ W, (Instr.makeSlice 30 (.int .i64 (c : Int)) (.int .i64 (c : Int))).run Tryz.prog W = .ok (.slice (some ⟨W.heap.size, 0, none⟩) c c) (W.alloc (.cells (empties c).toArray 9)) := fun W => make_eq 30 9 (.string ⟨#[]⟩) 16 Tryz.underlying30 Tryz.info9 rfl c (by omega) (by omega) W
  go_enter Tryz.func38, Tryz.ntmps38
  have hs9 : (Tryz.prog.info? 9).map (·.size) = some 1 := by kernel_rfl
  have hbn := Blk.new w 9 (empties c)
  have hec : (empties c).length = c := by simp [empties]
  have cb := hb.alloc (.cells (empties c).toArray 9)
  go_wp2_with (first
    | (go_at_call 63; refine (hmul _).mono ?_; rintro e w' ⟨rfl, rfl⟩)
    | (refine wpList_copy_splice rfl (.tmp 31) (.tmp 32) 30 30 rfl 9 Tryz.underlying30 hs9 (some ⟨w.heap.size, 0, none⟩) (some ⟨b, 0, none⟩) c c 1 cap rfl rfl w.heap.size 0 (empties c) 9 hbn [.string s] ?n1 ?n2 ?n3 ?n4 w.heap.size w ?n5 (Nat.le_refl _) ?n6))
  case n1 => exact (Nat.min_eq_left h1).symm
  case n2 =>
    intro j v hj
    match j, hj with
    | 0, hj => simp at hj; subst hj; simpa using cb.cell 0
  case n3 => simp [empties]; omega
  case n4 => intro v hv; simp at hv; subst hv; rfl
  case n5 => exact (Below.refl _ _).alloc (Nat.le_refl _) _
  case n6 =>
    intro w1 hw1 hb1
    go_wp2
    go_loopw [8] (fun n wr => ∃ m : Nat, 1 ≤ m ∧ m ≤ c ∧ n = .int .i64 m ∧ Blk wr w.heap.size 9 (strs (List.replicate m s) ++ empties (c - m)) ∧ Below w.heap.size w wr) (fun n _ => c - (intOf n).toNat)
    case atStart =>
      refine ⟨1, Nat.le_refl _, h1, rfl, ?_, hb1⟩
      have := hw1.out
      have e : splice (empties c) 0 [.string s] = strs (List.replicate 1 s) ++ empties (c - 1) := by
        simp [splice, strs, empties]
      rw [e] at this
      exact this
    case round =>
      obtain ⟨m, hm1, hmc, rfl, hblk, hbel⟩ := hrel
      by_cases hlt : m < c
      · have hget : ∀ j v, (strs (List.replicate (min m (c - m)) s))[j]? = some v → wr.cell? ⟨w.heap.size, j, none⟩ = some v := fun j v hj => by
          have hjl : j < min m (c - m) := by
            have := (List.getElem?_eq_some_iff.1 hj).1
            simpa [strs] using this
          rw [hblk.cell, List.getElem?_append_left (by simp [strs]; omega)]
          simp only [strs, List.getElem?_map, List.getElem?_replicate] at hj ⊢
          rw [if_pos (by omega)] at hj ⊢
          exact hj
        have hlen1 : (strs (List.replicate (min m (c - m)) s)).length = min m (c - m) := by simp [strs]
        have hlen2 : (strs (List.replicate m s) ++ empties (c - m)).length = c := by simp [strs, empties]; omega
        have hone : ∀ v ∈ strs (List.replicate (min m (c - m)) s), v.oneCell' = true := fun v hv => by
          simp only [strs, List.mem_map] at hv
          obtain ⟨x, _, rfl⟩ := hv
          rfl
        have hspl : splice (strs (List.replicate m s) ++ empties (c - m)) m (strs (List.replicate (min m (c - m)) s)) = strs (List.replicate (m + min m (c - m)) s) ++ empties (c - (m + min m (c - m))) := by
          have e1 : (strs (List.replicate m s)).length = m := by simp [strs]
          have e2 : List.replicate (m + min m (c - m)) s = List.replicate m s ++ List.replicate (min m (c - m)) s := List.replicate_append_replicate.symm
          unfold splice
          rw [hlen1, List.take_append_of_le_length (by rw [e1]; exact Nat.le_refl _), List.take_of_length_le (by rw [e1]; exact Nat.le_refl _), List.drop_append, List.drop_of_length_le (by rw [e1]; omega), e1, e2]
          simp only [strs, List.map_append, List.append_assoc, List.nil_append, empties, List.drop_replicate]
          congr 3
          omega
        have Hspl := Lib.hid hspl
        have Hl1 := Lib.hid hlen1
        have Hl2 := Lib.hid hlen2
        clear hspl hlen1 hlen2
        generalize strs (List.replicate (min m (c - m)) s) = cs at *
        generalize strs (List.replicate m s) ++ empties (c - m) = cur at *
        go_wp2
        have hne : ¬ c = m := by omega
        have hcl : m + cs.length ≤ 4096 := by rw [Hl1.out]; omega
        have hcw : IntKind.i64.wrap ((m : Int) + (cs.length : Int)) = ((m + cs.length : Nat) : Int) := by rw [IntKind.wrap_i64]; omega
        go_region_law (refine step_copy_splice rfl (.tmp 41) (.tmp 44) 30 30 rfl 9 Tryz.underlying30 hs9 (some ⟨w.heap.size, m, none⟩) (some ⟨w.heap.size, 0, none⟩) (c - m) (c - m) m c (by simp [Act.eval, Act.put, hne]) (by simp [Act.eval, Act.put]) w.heap.size m cur 9 hblk cs (by rw [Hl1.out]) (fun _ => ⟨rfl, _, rfl, fun j v hj => by rw [add_zero_off]; exact hget j v hj⟩) (by rw [Hl1.out, Hl2.out]; omega) hone w.heap.size w hbel.drew (Nat.le_refl _) ?_; intro w4 hg4 hb4; try simp only [hcw])
        have hg4' := Hspl.out ▸ hg4.out
        rw [← Hl1.out] at hg4'
        go_simp
        go_wp2
        go_roundw
        · refine ⟨m + cs.length, by omega, by have := Hl1.out; omega, ?_, hg4', hb4⟩
          simp [Act.put]
        · have := Hl1.out
          simp [intOf]
          omega
      · go_wp2
        go_ret
        obtain rfl : m = c := by omega
        refine ⟨_, rfl, Nat.le_refl _, ?_, Chg.of_below hbel⟩
        simpa [empties] using hblk
end Go.Proofs.Obj
