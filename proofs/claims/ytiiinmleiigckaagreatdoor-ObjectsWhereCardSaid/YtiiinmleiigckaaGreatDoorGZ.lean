/- What is proved here: contract of Map.with. No condition but what each theorem says. -/
import Derived.Test.YtiiinmleiigckaaGreatDoorGX
import Derived.Test.YtiiinmleiigckaaGreatDoorGY
import Derived.Deep.DeepCutAuto
set_option linter.unusedVariables false
set_option linter.unusedSimpArgs false

/- L7 -/
namespace Go.Proofs.Obj
open Go Go.RowKit Go.Shelf

def WithRel (w0 : World) (q : Nat) (p : PutM) (m : MpL) (d i : Value) (wr : World) : Prop :=
  ∃ (j : Nat) (dn : Bool) (out : MpL) (kv bv : Value), j ≤ m.length ∧ d = .bool dn ∧ i = .int .i64 j ∧ Hid (out ++ withG p dn (m.drop j) = withG p p.gone m) ∧ out.length ≤ 2 * j ∧
    WOut w0 q (out.map (·.1)) (out.map (·.2)) kv bv wr

set_option maxRecDepth 100000 in
set_option maxHeartbeats 4000000 in
theorem with_spec {w : World} {v : Value} {m : MpL} {p : PutM} (hm : MapV w v m) (hl : m.length ≤ 1000000) (hs : ∀ x ∈ m, x.1.length ≤ 4294967296 ∧ x.2.length ≤ 4294967296) (hp : p.key.length ≤ 4294967296 ∧ p.blob.length ≤ 4294967296) :
    Calls Tryz.prog 40 #[v, .agg #[.string (S p.key), .string (S p.blob), .bool p.gone]] w fun e w' => ∃ v', e = .returned v' ∧ MapV w' v' (withG p p.gone m) ∧ AggFrom (fun b => w.heap.size ≤ b ∧ b < w'.heap.size) v' ∧ Same w w' := by
  obtain ⟨_, _, rfl, ⟨A1, c1, rfl, r1⟩, ⟨A2, c2, rfl, r2⟩⟩ := hm
  simp only [List.length_map]
  have hsp := S_size p.key
  have hgen : ∃ w0 : World, ((w.alloc (.cells #[.slice A1 m.length c1, .slice A2 m.length c2] 32)).alloc (.cells #[.string (S p.key), .string (S p.blob), .bool p.gone] 43)).alloc (.cells #[.slice none 0 0, .slice none 0 0] 32) = w0 ∧ Blk w0 w.heap.size 32 [.slice A1 m.length c1, .slice A2 m.length c2] ∧ Blk w0 (w.heap.size + 1) 43 [.string (S p.key), .string (S p.blob), .bool p.gone] ∧ Blk w0 (w.heap.size + 1 + 1) 32 [.slice none 0 0, .slice none 0 0] ∧ Same w w0 ∧ w0.heap.size = w.heap.size + 1 + 1 + 1 := by
    have h2 := Blk.new (w.alloc (.cells #[.slice A1 m.length c1, .slice A2 m.length c2] 32)) 43 [.string (S p.key), .string (S p.blob), .bool p.gone]
    have h3 := Blk.new ((w.alloc (.cells #[.slice A1 m.length c1, .slice A2 m.length c2] 32)).alloc (.cells #[.string (S p.key), .string (S p.blob), .bool p.gone] 43)) 32 [.slice none 0 0, .slice none 0 0]
    simp only [World.size_alloc] at h2 h3
    exact ⟨_, rfl, ((Blk.new w 32 [.slice A1 m.length c1, .slice A2 m.length c2]).alloc _).alloc _, h2.alloc _, h3, (((Chg.refl _ w).alloc _).alloc _).alloc _, by simp⟩
  go_enter Tryz.func40, Tryz.ntmps40
  go_wp2
  obtain ⟨w0, hw0, hb2, hb3, hb4, k0, hsz0⟩ := hgen
  rw [hw0]
  have hst : WOut w0 (w.heap.size + 1 + 1 + 1) [] [] (.slice none 0 0) (.slice none 0 0) (w0.alloc (.cells #[.slice none 0 0, .slice none 0 0] 32)) := by
    have h5 := Blk.new w0 32 [.slice none 0 0, .slice none 0 0]
    rw [hsz0] at h5
    exact ⟨(Chg.refl _ w0).alloc _, h5, own_nil _ _ _ _, own_nil _ _ _ _, (by intro x hx; cases hx), by omega⟩
  have r1 := r1.same k0
  have r2 := r2.same k0
  clear hw0
  obtain ⟨a00, a01, _⟩ := hb2.st2
  obtain ⟨p00, p01, _, _⟩ := hb3.st3
  go_loopw [6, 7] (fun d i wr => WithRel w0 (w.heap.size + 1 + 1 + 1) p m d i wr) (fun d i _ => m.length - (intOf i).toNat)
  case atStart => exact ⟨0, p.gone, [], _, _, Nat.zero_le _, rfl, rfl, Lib.hid rfl, Nat.zero_le _, hst⟩
  case round =>
    obtain ⟨j, dn, out, kv, bv, hj, rfl, rfl, Hw, hol, hO⟩ := hrel
    have a0 := cell_chg hO.c a00 (fun h => h)
    have a1 := cell_chg hO.c a01 (fun h => h)
    have p0 := cell_chg hO.c p00 (fun h => h)
    have p1 := cell_chg hO.c p01 (fun h => h)
    by_cases hjt : j < m.length
    · obtain ⟨ba, oa, rfl, hra⟩ := r1.at_ (by simp [keyCells]; omega)
      obtain ⟨bb, ob, rfl, hrb⟩ := r2.at_ (by simp [keyCells]; omega)
      have hX : ∀ W, Same w0 W → W.cell? ⟨w.heap.size, 0, none⟩ = some (.slice (some ⟨ba, oa, none⟩) m.length c1) ∧ W.cell? ⟨w.heap.size, 1, none⟩ = some (.slice (some ⟨bb, ob, none⟩) m.length c2) ∧ W.cell? ⟨w.heap.size + 1, 0, none⟩ = some (.string (S p.key)) ∧ W.cell? ⟨w.heap.size + 1, 1, none⟩ = some (.string (S p.blob)) ∧ W.cell? ⟨ba, oa + j, none⟩ = some (.string (S m[j].1)) ∧ W.cell? ⟨bb, ob + j, none⟩ = some (.string (S m[j].2)) := fun W k =>
        ⟨cell_chg k a00 (fun h => h), cell_chg k a01 (fun h => h), cell_chg k p00 (fun h => h), cell_chg k p01 (fun h => h), cell_chg k (hra j (.string (S m[j].1)) (by simp [keyCells, hjt])) (fun h => h), cell_chg k (hrb j (.string (S m[j].2)) (by simp [keyCells, hjt])) (fun h => h)⟩
      have hgt := strGtr m[j].1 p.key
      have hse := strEq m[j].1 p.key
      have hdr : m.drop j = m[j] :: m.drop (j + 1) := List.drop_eq_getElem_cons hjt
      have hw1 := Hw.out
      rw [hdr, withG] at hw1
      have Hw1 := Lib.hid hw1
      clear hw1 hdr Hw hra hrb
      have hkl := (hs _ (List.getElem_mem hjt)).1
      have hvl := (hs _ (List.getElem_mem hjt)).2
      have hsk := S_size m[j].1
      have hsv := S_size m[j].2
      generalize m[j] = x at *
      have HX := Lib.hid hX
      obtain ⟨a0, a1, p0, p1, x0, x1⟩ := hX wr hO.c
      clear hX
      by_cases he : x.1 = p.key
      · rw [decide_eq_true he] at hse
        have hbf : bytesBefore p.key x.1 = false := by rw [he]; exact bytesBefore_irrefl _
        have hw2 := Hw1.out
        rw [hbf, if_pos he, if_neg (by simp), Bool.or_false, List.nil_append, List.nil_append] at hw2
        have Hw2 := Lib.hid hw2
        clear hgt hw2 Hw1 he
        cases dn with
        | false =>
          go_wp2
          go_big_quiet (fail)
          have hO1 := hO.same ((Chg.refl _ wr).drewN nq)
          generalize wr.drewN nq = wa at *
          obtain ⟨a0, a1, p0, p1, x0, x1⟩ := HX.out wa hO1.c
          have hsn : (!((S x.1).toList == (S p.key).toList)) = false := by rw [hse]; rfl
          go_wp2
          go_big_quiet (fail)
          have hO2 := hO1.same ((Chg.refl _ wa).drewN nq)
          generalize wa.drewN nq = wb at *
          go_wp2
          go_roundw
          · exact ⟨j + 1, _, out, _, _, by omega, rfl, rfl, Hw2, by omega, hO2⟩
          · simp only [intOf]; omega
        | true =>
          go_wp2
          go_big_quiet (fail)
          have hO1 := hO.same ((Chg.refl _ wr).drewN nq)
          generalize wr.drewN nq = wa at *
          obtain ⟨a0, a1, p0, p1, x0, x1⟩ := HX.out wa hO1.c
          have hsn : (!((S x.1).toList == (S p.key).toList)) = false := by rw [hse]; rfl
          go_wp2
          go_big_quiet (fail)
          have hO2 := hO1.same ((Chg.refl _ wa).drewN nq)
          generalize wa.drewN nq = wb at *
          go_wp2
          go_roundw
          · exact ⟨j + 1, _, out, _, _, by omega, rfl, rfl, Hw2, by omega, hO2⟩
          · simp only [intOf]; omega
      · rw [decide_eq_false he] at hse
        cases hbf : bytesBefore p.key x.1
        · have hlb : Op.bytesLess (S x.1).toList (S p.key).toList = true := by
            rw [hbf, hse, Bool.or_false] at hgt
            simpa using hgt
          have hw2 := Hw1.out
          rw [hbf, if_neg he, if_neg (by simp), Bool.or_false, List.nil_append, ← List.append_assoc] at hw2
          have Hw2 := Lib.hid hw2
          clear hgt hw2 Hw1 he
          cases dn with
          | false =>
            go_wp2
            go_big_quiet (fail)
            have hO1 := hO.same ((Chg.refl _ wr).drewN nq)
            generalize wr.drewN nq = wa at *
            obtain ⟨a0, a1, p0, p1, x0, x1⟩ := HX.out wa hO1.c
            have hsn : (!((S x.1).toList == (S p.key).toList)) = true := by rw [hse]; rfl
            go_wp2
            go_big_quiet (fail)
            have hO2 := hO1.same ((Chg.refl _ wa).drewN nq)
            generalize wa.drewN nq = wb at *
            obtain ⟨a0, a1, p0, p1, x0, x1⟩ := HX.out wb hO2.c
            have y0 := hO2.b.cell 0
            simp only [List.getElem?_cons_zero, List.getElem?_cons_succ] at y0
            have hS1 : Same wb ((wb.alloc (.cells #[.string (S x.1)] 9)).drew) := ((Chg.refl _ wb).alloc _).drew
            have kS0 := hO2.c.trans hS1
            have hO2' := hO2.same hS1
            obtain ⟨A3, c3, hkv⟩ := hO2.len_k
            have hll : (out.map (·.1)).length = out.length := List.length_map _
            rw [hll] at hkv
            subst hkv
            have hbs0 := hO2'.c.size
            have y1 := hO2'.b.cell 0
            simp only [List.getElem?_cons_zero, List.getElem?_cons_succ] at y1
            have y2 : (wb.alloc (.cells #[.string (S x.1)] 9)).cell? ⟨w.heap.size + 1 + 1 + 1, 0, none⟩ = some (.slice A3 out.length c3) := y1
            go_wp2
            refine regionL (fun w' => w'.cell? ⟨w.heap.size, 0, none⟩ = some (.slice (some ⟨ba, oa, none⟩) m.length c1) ∧ w'.cell? ⟨ba, oa + j, none⟩ = some (.string (S x.1))) (fun w' => w'.cell? ⟨w.heap.size + 1 + 1 + 1, 0, none⟩ = some (.slice A3 out.length c3)) 10 (by kernel_rfl) (by first | exact ⟨a0, x0⟩ | exact ⟨(HX.out _ kS0).1, (HX.out _ kS0).2.2.2.2.1⟩ | exact ⟨(HX.out _ kS1).1, (HX.out _ kS1).2.2.2.2.1⟩ | exact ⟨(HX.out _ kS2).1, (HX.out _ kS2).2.2.2.2.1⟩) y0 (fun hSK => ?_)
            refine takeK0 (i := 0) (v := ?v1) rfl (by kernel_rfl) (by kernel_rfl) (by kernel_rfl) rfl (fun _ _ _ h => h) (Or.inl ⟨by rfl, ?h1⟩) hSK (fun hSK => ?_)
            case h1 => intro w hSw; obtain ⟨hd0, hd1⟩ := hSw; first | (go_simp; done) | (go_simp; with_reducible rfl)
            try simp only [Act.put, List.setIfInBounds_toArray, List.set_cons_zero, List.set_cons_succ]
            refine takeK1 (i := 1) (v := ?v2) rfl (by kernel_rfl) (by kernel_rfl) (by kernel_rfl) rfl (by kernel_rfl) rfl (fun _ _ _ h => h) (Or.inl ⟨by rfl, ?h2⟩) hSK (fun hSK => ?_)
            case h2 => intro w hSw; obtain ⟨⟨hd0, hd1⟩, hd2⟩ := hSw; first | (go_simp; done) | (go_simp; with_reducible rfl)
            try simp only [Act.put, List.setIfInBounds_toArray, List.set_cons_zero, List.set_cons_succ]
            refine takeK0 (i := 2) (v := ?v3) rfl (by kernel_rfl) (by kernel_rfl) (by kernel_rfl) rfl (fun _ _ _ h => h) (Or.inl ⟨by rfl, ?h3⟩) hSK (fun hSK => ?_)
            case h3 => intro w hSw; obtain ⟨hd0, hd1⟩ := hSw; first | (go_simp; done) | (go_simp; with_reducible rfl)
            try simp only [Act.put, List.setIfInBounds_toArray, List.set_cons_zero, List.set_cons_succ]
            refine takeK0 (i := 3) (v := ?v4) rfl (by kernel_rfl) (by kernel_rfl) (by kernel_rfl) rfl (fun _ _ _ h => h) (Or.inl ⟨by rfl, ?h4⟩) hSK (fun hSK => ?_)
            case h4 => intro w hSw; obtain ⟨hd0, hd1⟩ := hSw; first | (go_simp; done) | (go_simp; with_reducible rfl)
            try simp only [Act.put, List.setIfInBounds_toArray, List.set_cons_zero, List.set_cons_succ]
            refine takeK0 (i := 4) (v := ?v5) rfl (by kernel_rfl) (by kernel_rfl) (by kernel_rfl) rfl (fun _ _ _ h => h) (Or.inl ⟨by rfl, ?h5⟩) hSK (fun hSK => ?_)
            case h5 => intro w hSw; obtain ⟨hd0, hd1⟩ := hSw; first | (go_simp; done) | (go_simp; with_reducible rfl)
            try simp only [Act.put, List.setIfInBounds_toArray, List.set_cons_zero, List.set_cons_succ]
            refine takeK0 (i := 5) (v := ?v6) rfl (by kernel_rfl) (by kernel_rfl) (by kernel_rfl) rfl (fun _ _ _ h => h) (Or.inl ⟨by rfl, ?h6⟩) hSK (fun hSK => ?_)
            case h6 => intro w hSw; obtain ⟨hd0, hd1⟩ := hSw; first | (go_simp; done) | (go_simp; with_reducible rfl)
            try simp only [Act.put, List.setIfInBounds_toArray, List.set_cons_zero, List.set_cons_succ]
            refine takeK0 (i := 6) (v := ?v7) rfl (by kernel_rfl) (by kernel_rfl) (by kernel_rfl) rfl (fun _ _ _ h => h) (Or.inl ⟨by rfl, ?h7⟩) hSK (fun hSK => ?_)
            case h7 => intro w hSw; obtain ⟨hd0, hd1⟩ := hSw; first | (go_simp; done) | (go_simp; with_reducible rfl)
            try simp only [Act.put, List.setIfInBounds_toArray, List.set_cons_zero, List.set_cons_succ]
            refine readyL (i := 7) (by kernel_rfl) rfl (fun K hK => ?_)
            rw [if_pos (by rfl)]
            go_simp
            refine hK.out _ _ (SK.both (by first | exact ⟨a0, x0⟩ | exact ⟨(HX.out _ kS0).1, (HX.out _ kS0).2.2.2.2.1⟩ | exact ⟨(HX.out _ kS1).1, (HX.out _ kS1).2.2.2.2.1⟩ | exact ⟨(HX.out _ kS2).1, (HX.out _ kS2).2.2.2.2.1⟩) y2 _) (fun hSK => ?_)
            clear hK K
            try simp only [Act.put, List.setIfInBounds_toArray, List.set_cons_zero, List.set_cons_succ]
            refine readyL (i := 8) (by kernel_rfl) rfl (fun K hK => ?_)
            refine step_app_own rfl (.tmp 52) (.tmp 58) 30 9 _ 1 16 rfl Tryz.underlying30 Tryz.info9 rfl (by decide) (by decide) w0.heap.size (.slice A3 out.length c3) out.length (keyCells (out.map (·.1))) [.string (S x.1)] ⟨wb.heap.size, 0, none⟩ (by first | rfl | simp [Act.eval, Act.put]) (by first | rfl | simp [Act.eval, Act.put]) rfl (by intro u hu; simp at hu; subst hu; rfl) (cell_one_drew _ _ _) (hO2'.kn hll) hbs0 (by omega) ?_
            intro g1 cp1 W1 hrow1 k1 hg1
            obtain ⟨z0, f0, kS1, hO3, kS2⟩ := hO2'.key hll hrow1 k1 hg1
            refine hK.out _ _ (SK.both (by first | exact ⟨a0, x0⟩ | exact ⟨(HX.out _ kS0).1, (HX.out _ kS0).2.2.2.2.1⟩ | exact ⟨(HX.out _ kS1).1, (HX.out _ kS1).2.2.2.2.1⟩ | exact ⟨(HX.out _ kS2).1, (HX.out _ kS2).2.2.2.2.1⟩) (by first | exact z0 | assumption) _) (fun hSK => ?_)
            clear hK K
            try simp only [Act.put, List.setIfInBounds_toArray, List.set_cons_zero, List.set_cons_succ]
            refine takeK0 (i := 9) (v := ?v8) rfl (by kernel_rfl) (by kernel_rfl) (by kernel_rfl) rfl (fun _ _ _ h => h) (Or.inl ⟨by rfl, ?h8⟩) hSK (fun hSK => ?_)
            case h8 => intro w hSw; obtain ⟨hd0, hd1⟩ := hSw; first | (go_simp; done) | (go_simp; with_reducible rfl)
            try simp only [Act.put, List.setIfInBounds_toArray, List.set_cons_zero, List.set_cons_succ]
            refine readyL (i := 10) (by kernel_rfl) rfl (fun K hK => ?_)
            rw [if_pos (by rfl)]
            go_simp
            refine hK.out _ _ (SK.late (by first | exact ⟨a0, x0⟩ | exact ⟨(HX.out _ kS0).1, (HX.out _ kS0).2.2.2.2.1⟩ | exact ⟨(HX.out _ kS1).1, (HX.out _ kS1).2.2.2.2.1⟩ | exact ⟨(HX.out _ kS2).1, (HX.out _ kS2).2.2.2.2.1⟩) (by rfl)) (fun hSK => ?_)
            clear hK K
            try simp only [Act.put, List.setIfInBounds_toArray, List.set_cons_zero, List.set_cons_succ]
            refine doneL (by kernel_rfl) ?_ _
            all_goals
              clear hrow1 k1 hg1 z0 f0 kS1 y0 y1 y2 hS1 kS0 hO2' kS2
              generalize W1.setCell _ _ = wc at *
              obtain ⟨a0, a1, p0, p1, x0, x1⟩ := HX.out wc hO3.c
              have y0 := hO3.b.cell 1
              simp only [List.getElem?_cons_zero, List.getElem?_cons_succ] at y0
              have hS1 : Same wc ((wc.alloc (.cells #[.string (S x.2)] 9)).drew) := ((Chg.refl _ wc).alloc _).drew
              have kS0 := hO3.c.trans hS1
              have hO2' := hO3.same hS1
              obtain ⟨A3, c3, hkv⟩ := hO3.len_v
              have hll : (out.map (·.2)).length = out.length := List.length_map _
              rw [hll] at hkv
              subst hkv
              have hbs0 := hO2'.c.size
              have y1 := hO2'.b.cell 1
              simp only [List.getElem?_cons_zero, List.getElem?_cons_succ] at y1
              have y2 : (wc.alloc (.cells #[.string (S x.2)] 9)).cell? ⟨w.heap.size + 1 + 1 + 1, 1, none⟩ = some (.slice A3 out.length c3) := y1
              go_wp2
              refine regionL (fun w' => w'.cell? ⟨w.heap.size, 1, none⟩ = some (.slice (some ⟨bb, ob, none⟩) m.length c2) ∧ w'.cell? ⟨bb, ob + j, none⟩ = some (.string (S x.2))) (fun w' => w'.cell? ⟨w.heap.size + 1 + 1 + 1, 1, none⟩ = some (.slice A3 out.length c3)) 10 (by kernel_rfl) (by first | exact ⟨a1, x1⟩ | exact ⟨(HX.out _ kS0).2.1, (HX.out _ kS0).2.2.2.2.2⟩ | exact ⟨(HX.out _ kS1).2.1, (HX.out _ kS1).2.2.2.2.2⟩ | exact ⟨(HX.out _ kS2).2.1, (HX.out _ kS2).2.2.2.2.2⟩) y0 (fun hSK => ?_)
              refine takeK0 (i := 0) (v := ?v9) rfl (by kernel_rfl) (by kernel_rfl) (by kernel_rfl) rfl (fun _ _ _ h => h) (Or.inl ⟨by rfl, ?h9⟩) hSK (fun hSK => ?_)
              case h9 => intro w hSw; obtain ⟨hd0, hd1⟩ := hSw; first | (go_simp; done) | (go_simp; with_reducible rfl)
              try simp only [Act.put, List.setIfInBounds_toArray, List.set_cons_zero, List.set_cons_succ]
              refine takeK1 (i := 1) (v := ?v10) rfl (by kernel_rfl) (by kernel_rfl) (by kernel_rfl) rfl (by kernel_rfl) rfl (fun _ _ _ h => h) (Or.inl ⟨by rfl, ?h10⟩) hSK (fun hSK => ?_)
              case h10 => intro w hSw; obtain ⟨⟨hd0, hd1⟩, hd2⟩ := hSw; first | (go_simp; done) | (go_simp; with_reducible rfl)
              try simp only [Act.put, List.setIfInBounds_toArray, List.set_cons_zero, List.set_cons_succ]
              refine takeK0 (i := 2) (v := ?v11) rfl (by kernel_rfl) (by kernel_rfl) (by kernel_rfl) rfl (fun _ _ _ h => h) (Or.inl ⟨by rfl, ?h11⟩) hSK (fun hSK => ?_)
              case h11 => intro w hSw; obtain ⟨hd0, hd1⟩ := hSw; first | (go_simp; done) | (go_simp; with_reducible rfl)
              try simp only [Act.put, List.setIfInBounds_toArray, List.set_cons_zero, List.set_cons_succ]
              refine takeK0 (i := 3) (v := ?v12) rfl (by kernel_rfl) (by kernel_rfl) (by kernel_rfl) rfl (fun _ _ _ h => h) (Or.inl ⟨by rfl, ?h12⟩) hSK (fun hSK => ?_)
              case h12 => intro w hSw; obtain ⟨hd0, hd1⟩ := hSw; first | (go_simp; done) | (go_simp; with_reducible rfl)
              try simp only [Act.put, List.setIfInBounds_toArray, List.set_cons_zero, List.set_cons_succ]
              refine takeK0 (i := 4) (v := ?v13) rfl (by kernel_rfl) (by kernel_rfl) (by kernel_rfl) rfl (fun _ _ _ h => h) (Or.inl ⟨by rfl, ?h13⟩) hSK (fun hSK => ?_)
              case h13 => intro w hSw; obtain ⟨hd0, hd1⟩ := hSw; first | (go_simp; done) | (go_simp; with_reducible rfl)
              try simp only [Act.put, List.setIfInBounds_toArray, List.set_cons_zero, List.set_cons_succ]
              refine takeK0 (i := 5) (v := ?v14) rfl (by kernel_rfl) (by kernel_rfl) (by kernel_rfl) rfl (fun _ _ _ h => h) (Or.inl ⟨by rfl, ?h14⟩) hSK (fun hSK => ?_)
              case h14 => intro w hSw; obtain ⟨hd0, hd1⟩ := hSw; first | (go_simp; done) | (go_simp; with_reducible rfl)
              try simp only [Act.put, List.setIfInBounds_toArray, List.set_cons_zero, List.set_cons_succ]
              refine takeK0 (i := 6) (v := ?v15) rfl (by kernel_rfl) (by kernel_rfl) (by kernel_rfl) rfl (fun _ _ _ h => h) (Or.inl ⟨by rfl, ?h15⟩) hSK (fun hSK => ?_)
              case h15 => intro w hSw; obtain ⟨hd0, hd1⟩ := hSw; first | (go_simp; done) | (go_simp; with_reducible rfl)
              try simp only [Act.put, List.setIfInBounds_toArray, List.set_cons_zero, List.set_cons_succ]
              refine readyL (i := 7) (by kernel_rfl) rfl (fun K hK => ?_)
              rw [if_pos (by rfl)]
              go_simp
              refine hK.out _ _ (SK.both (by first | exact ⟨a1, x1⟩ | exact ⟨(HX.out _ kS0).2.1, (HX.out _ kS0).2.2.2.2.2⟩ | exact ⟨(HX.out _ kS1).2.1, (HX.out _ kS1).2.2.2.2.2⟩ | exact ⟨(HX.out _ kS2).2.1, (HX.out _ kS2).2.2.2.2.2⟩) y2 _) (fun hSK => ?_)
              clear hK K
              try simp only [Act.put, List.setIfInBounds_toArray, List.set_cons_zero, List.set_cons_succ]
              refine readyL (i := 8) (by kernel_rfl) rfl (fun K hK => ?_)
              refine step_app_own rfl (.tmp 62) (.tmp 68) 30 9 _ 1 16 rfl Tryz.underlying30 Tryz.info9 rfl (by decide) (by decide) w0.heap.size (.slice A3 out.length c3) out.length (keyCells (out.map (·.2))) [.string (S x.2)] ⟨wc.heap.size, 0, none⟩ (by first | rfl | simp [Act.eval, Act.put]) (by first | rfl | simp [Act.eval, Act.put]) rfl (by intro u hu; simp at hu; subst hu; rfl) (cell_one_drew _ _ _) (hO2'.vn hll) hbs0 (by omega) ?_
              intro g1 cp1 W1 hrow1 k1 hg1
              obtain ⟨z0, f0, kS1, hO3, kS2⟩ := hO2'.val hll hrow1 k1 hg1
              refine hK.out _ _ (SK.both (by first | exact ⟨a1, x1⟩ | exact ⟨(HX.out _ kS0).2.1, (HX.out _ kS0).2.2.2.2.2⟩ | exact ⟨(HX.out _ kS1).2.1, (HX.out _ kS1).2.2.2.2.2⟩ | exact ⟨(HX.out _ kS2).2.1, (HX.out _ kS2).2.2.2.2.2⟩) (by first | exact z0 | assumption) _) (fun hSK => ?_)
              clear hK K
              try simp only [Act.put, List.setIfInBounds_toArray, List.set_cons_zero, List.set_cons_succ]
              refine takeK0 (i := 9) (v := ?v16) rfl (by kernel_rfl) (by kernel_rfl) (by kernel_rfl) rfl (fun _ _ _ h => h) (Or.inl ⟨by rfl, ?h16⟩) hSK (fun hSK => ?_)
              case h16 => intro w hSw; obtain ⟨hd0, hd1⟩ := hSw; first | (go_simp; done) | (go_simp; with_reducible rfl)
              try simp only [Act.put, List.setIfInBounds_toArray, List.set_cons_zero, List.set_cons_succ]
              refine readyL (i := 10) (by kernel_rfl) rfl (fun K hK => ?_)
              rw [if_pos (by rfl)]
              go_simp
              refine hK.out _ _ (SK.late (by first | exact ⟨a1, x1⟩ | exact ⟨(HX.out _ kS0).2.1, (HX.out _ kS0).2.2.2.2.2⟩ | exact ⟨(HX.out _ kS1).2.1, (HX.out _ kS1).2.2.2.2.2⟩ | exact ⟨(HX.out _ kS2).2.1, (HX.out _ kS2).2.2.2.2.2⟩) (by rfl)) (fun hSK => ?_)
              clear hK K
              try simp only [Act.put, List.setIfInBounds_toArray, List.set_cons_zero, List.set_cons_succ]
              refine doneL (by kernel_rfl) ?_ _
              all_goals
                clear hrow1 k1 hg1 z0 f0 kS1 y0 y1 y2 hS1 kS0 hO2' kS2
                generalize W1.setCell _ _ = wc at *
                have hO4 := hO3.snoc
                go_wp2
                go_roundw
                · exact ⟨j + 1, _, out ++ [x], _, _, by omega, rfl, rfl, Lib.hid (by exact Hw2.out), by rw [List.length_append, List.length_singleton]; omega, hO4⟩
                · simp only [intOf]; omega
          | true =>
            go_wp2
            go_big_quiet (fail)
            have hO1 := hO.same ((Chg.refl _ wr).drewN nq)
            generalize wr.drewN nq = wa at *
            obtain ⟨a0, a1, p0, p1, x0, x1⟩ := HX.out wa hO1.c
            have hsn : (!((S x.1).toList == (S p.key).toList)) = true := by rw [hse]; rfl
            go_wp2
            go_big_quiet (fail)
            have hO2 := hO1.same ((Chg.refl _ wa).drewN nq)
            generalize wa.drewN nq = wb at *
            obtain ⟨a0, a1, p0, p1, x0, x1⟩ := HX.out wb hO2.c
            have y0 := hO2.b.cell 0
            simp only [List.getElem?_cons_zero, List.getElem?_cons_succ] at y0
            have hS1 : Same wb ((wb.alloc (.cells #[.string (S x.1)] 9)).drew) := ((Chg.refl _ wb).alloc _).drew
            have kS0 := hO2.c.trans hS1
            have hO2' := hO2.same hS1
            obtain ⟨A3, c3, hkv⟩ := hO2.len_k
            have hll : (out.map (·.1)).length = out.length := List.length_map _
            rw [hll] at hkv
            subst hkv
            have hbs0 := hO2'.c.size
            have y1 := hO2'.b.cell 0
            simp only [List.getElem?_cons_zero, List.getElem?_cons_succ] at y1
            have y2 : (wb.alloc (.cells #[.string (S x.1)] 9)).cell? ⟨w.heap.size + 1 + 1 + 1, 0, none⟩ = some (.slice A3 out.length c3) := y1
            go_wp2
            refine regionL (fun w' => w'.cell? ⟨w.heap.size, 0, none⟩ = some (.slice (some ⟨ba, oa, none⟩) m.length c1) ∧ w'.cell? ⟨ba, oa + j, none⟩ = some (.string (S x.1))) (fun w' => w'.cell? ⟨w.heap.size + 1 + 1 + 1, 0, none⟩ = some (.slice A3 out.length c3)) 10 (by kernel_rfl) (by first | exact ⟨a0, x0⟩ | exact ⟨(HX.out _ kS0).1, (HX.out _ kS0).2.2.2.2.1⟩ | exact ⟨(HX.out _ kS1).1, (HX.out _ kS1).2.2.2.2.1⟩ | exact ⟨(HX.out _ kS2).1, (HX.out _ kS2).2.2.2.2.1⟩) y0 (fun hSK => ?_)
            refine takeK0 (i := 0) (v := ?v17) rfl (by kernel_rfl) (by kernel_rfl) (by kernel_rfl) rfl (fun _ _ _ h => h) (Or.inl ⟨by rfl, ?h17⟩) hSK (fun hSK => ?_)
            case h17 => intro w hSw; obtain ⟨hd0, hd1⟩ := hSw; first | (go_simp; done) | (go_simp; with_reducible rfl)
            try simp only [Act.put, List.setIfInBounds_toArray, List.set_cons_zero, List.set_cons_succ]
            refine takeK1 (i := 1) (v := ?v18) rfl (by kernel_rfl) (by kernel_rfl) (by kernel_rfl) rfl (by kernel_rfl) rfl (fun _ _ _ h => h) (Or.inl ⟨by rfl, ?h18⟩) hSK (fun hSK => ?_)
            case h18 => intro w hSw; obtain ⟨⟨hd0, hd1⟩, hd2⟩ := hSw; first | (go_simp; done) | (go_simp; with_reducible rfl)
            try simp only [Act.put, List.setIfInBounds_toArray, List.set_cons_zero, List.set_cons_succ]
            refine takeK0 (i := 2) (v := ?v19) rfl (by kernel_rfl) (by kernel_rfl) (by kernel_rfl) rfl (fun _ _ _ h => h) (Or.inl ⟨by rfl, ?h19⟩) hSK (fun hSK => ?_)
            case h19 => intro w hSw; obtain ⟨hd0, hd1⟩ := hSw; first | (go_simp; done) | (go_simp; with_reducible rfl)
            try simp only [Act.put, List.setIfInBounds_toArray, List.set_cons_zero, List.set_cons_succ]
            refine takeK0 (i := 3) (v := ?v20) rfl (by kernel_rfl) (by kernel_rfl) (by kernel_rfl) rfl (fun _ _ _ h => h) (Or.inl ⟨by rfl, ?h20⟩) hSK (fun hSK => ?_)
            case h20 => intro w hSw; obtain ⟨hd0, hd1⟩ := hSw; first | (go_simp; done) | (go_simp; with_reducible rfl)
            try simp only [Act.put, List.setIfInBounds_toArray, List.set_cons_zero, List.set_cons_succ]
            refine takeK0 (i := 4) (v := ?v21) rfl (by kernel_rfl) (by kernel_rfl) (by kernel_rfl) rfl (fun _ _ _ h => h) (Or.inl ⟨by rfl, ?h21⟩) hSK (fun hSK => ?_)
            case h21 => intro w hSw; obtain ⟨hd0, hd1⟩ := hSw; first | (go_simp; done) | (go_simp; with_reducible rfl)
            try simp only [Act.put, List.setIfInBounds_toArray, List.set_cons_zero, List.set_cons_succ]
            refine takeK0 (i := 5) (v := ?v22) rfl (by kernel_rfl) (by kernel_rfl) (by kernel_rfl) rfl (fun _ _ _ h => h) (Or.inl ⟨by rfl, ?h22⟩) hSK (fun hSK => ?_)
            case h22 => intro w hSw; obtain ⟨hd0, hd1⟩ := hSw; first | (go_simp; done) | (go_simp; with_reducible rfl)
            try simp only [Act.put, List.setIfInBounds_toArray, List.set_cons_zero, List.set_cons_succ]
            refine takeK0 (i := 6) (v := ?v23) rfl (by kernel_rfl) (by kernel_rfl) (by kernel_rfl) rfl (fun _ _ _ h => h) (Or.inl ⟨by rfl, ?h23⟩) hSK (fun hSK => ?_)
            case h23 => intro w hSw; obtain ⟨hd0, hd1⟩ := hSw; first | (go_simp; done) | (go_simp; with_reducible rfl)
            try simp only [Act.put, List.setIfInBounds_toArray, List.set_cons_zero, List.set_cons_succ]
            refine readyL (i := 7) (by kernel_rfl) rfl (fun K hK => ?_)
            rw [if_pos (by rfl)]
            go_simp
            refine hK.out _ _ (SK.both (by first | exact ⟨a0, x0⟩ | exact ⟨(HX.out _ kS0).1, (HX.out _ kS0).2.2.2.2.1⟩ | exact ⟨(HX.out _ kS1).1, (HX.out _ kS1).2.2.2.2.1⟩ | exact ⟨(HX.out _ kS2).1, (HX.out _ kS2).2.2.2.2.1⟩) y2 _) (fun hSK => ?_)
            clear hK K
            try simp only [Act.put, List.setIfInBounds_toArray, List.set_cons_zero, List.set_cons_succ]
            refine readyL (i := 8) (by kernel_rfl) rfl (fun K hK => ?_)
            refine step_app_own rfl (.tmp 52) (.tmp 58) 30 9 _ 1 16 rfl Tryz.underlying30 Tryz.info9 rfl (by decide) (by decide) w0.heap.size (.slice A3 out.length c3) out.length (keyCells (out.map (·.1))) [.string (S x.1)] ⟨wb.heap.size, 0, none⟩ (by first | rfl | simp [Act.eval, Act.put]) (by first | rfl | simp [Act.eval, Act.put]) rfl (by intro u hu; simp at hu; subst hu; rfl) (cell_one_drew _ _ _) (hO2'.kn hll) hbs0 (by omega) ?_
            intro g1 cp1 W1 hrow1 k1 hg1
            obtain ⟨z0, f0, kS1, hO3, kS2⟩ := hO2'.key hll hrow1 k1 hg1
            refine hK.out _ _ (SK.both (by first | exact ⟨a0, x0⟩ | exact ⟨(HX.out _ kS0).1, (HX.out _ kS0).2.2.2.2.1⟩ | exact ⟨(HX.out _ kS1).1, (HX.out _ kS1).2.2.2.2.1⟩ | exact ⟨(HX.out _ kS2).1, (HX.out _ kS2).2.2.2.2.1⟩) (by first | exact z0 | assumption) _) (fun hSK => ?_)
            clear hK K
            try simp only [Act.put, List.setIfInBounds_toArray, List.set_cons_zero, List.set_cons_succ]
            refine takeK0 (i := 9) (v := ?v24) rfl (by kernel_rfl) (by kernel_rfl) (by kernel_rfl) rfl (fun _ _ _ h => h) (Or.inl ⟨by rfl, ?h24⟩) hSK (fun hSK => ?_)
            case h24 => intro w hSw; obtain ⟨hd0, hd1⟩ := hSw; first | (go_simp; done) | (go_simp; with_reducible rfl)
            try simp only [Act.put, List.setIfInBounds_toArray, List.set_cons_zero, List.set_cons_succ]
            refine readyL (i := 10) (by kernel_rfl) rfl (fun K hK => ?_)
            rw [if_pos (by rfl)]
            go_simp
            refine hK.out _ _ (SK.late (by first | exact ⟨a0, x0⟩ | exact ⟨(HX.out _ kS0).1, (HX.out _ kS0).2.2.2.2.1⟩ | exact ⟨(HX.out _ kS1).1, (HX.out _ kS1).2.2.2.2.1⟩ | exact ⟨(HX.out _ kS2).1, (HX.out _ kS2).2.2.2.2.1⟩) (by rfl)) (fun hSK => ?_)
            clear hK K
            try simp only [Act.put, List.setIfInBounds_toArray, List.set_cons_zero, List.set_cons_succ]
            refine doneL (by kernel_rfl) ?_ _
            all_goals
              clear hrow1 k1 hg1 z0 f0 kS1 y0 y1 y2 hS1 kS0 hO2' kS2
              generalize W1.setCell _ _ = wc at *
              obtain ⟨a0, a1, p0, p1, x0, x1⟩ := HX.out wc hO3.c
              have y0 := hO3.b.cell 1
              simp only [List.getElem?_cons_zero, List.getElem?_cons_succ] at y0
              have hS1 : Same wc ((wc.alloc (.cells #[.string (S x.2)] 9)).drew) := ((Chg.refl _ wc).alloc _).drew
              have kS0 := hO3.c.trans hS1
              have hO2' := hO3.same hS1
              obtain ⟨A3, c3, hkv⟩ := hO3.len_v
              have hll : (out.map (·.2)).length = out.length := List.length_map _
              rw [hll] at hkv
              subst hkv
              have hbs0 := hO2'.c.size
              have y1 := hO2'.b.cell 1
              simp only [List.getElem?_cons_zero, List.getElem?_cons_succ] at y1
              have y2 : (wc.alloc (.cells #[.string (S x.2)] 9)).cell? ⟨w.heap.size + 1 + 1 + 1, 1, none⟩ = some (.slice A3 out.length c3) := y1
              go_wp2
              refine regionL (fun w' => w'.cell? ⟨w.heap.size, 1, none⟩ = some (.slice (some ⟨bb, ob, none⟩) m.length c2) ∧ w'.cell? ⟨bb, ob + j, none⟩ = some (.string (S x.2))) (fun w' => w'.cell? ⟨w.heap.size + 1 + 1 + 1, 1, none⟩ = some (.slice A3 out.length c3)) 10 (by kernel_rfl) (by first | exact ⟨a1, x1⟩ | exact ⟨(HX.out _ kS0).2.1, (HX.out _ kS0).2.2.2.2.2⟩ | exact ⟨(HX.out _ kS1).2.1, (HX.out _ kS1).2.2.2.2.2⟩ | exact ⟨(HX.out _ kS2).2.1, (HX.out _ kS2).2.2.2.2.2⟩) y0 (fun hSK => ?_)
              refine takeK0 (i := 0) (v := ?v25) rfl (by kernel_rfl) (by kernel_rfl) (by kernel_rfl) rfl (fun _ _ _ h => h) (Or.inl ⟨by rfl, ?h25⟩) hSK (fun hSK => ?_)
              case h25 => intro w hSw; obtain ⟨hd0, hd1⟩ := hSw; first | (go_simp; done) | (go_simp; with_reducible rfl)
              try simp only [Act.put, List.setIfInBounds_toArray, List.set_cons_zero, List.set_cons_succ]
              refine takeK1 (i := 1) (v := ?v26) rfl (by kernel_rfl) (by kernel_rfl) (by kernel_rfl) rfl (by kernel_rfl) rfl (fun _ _ _ h => h) (Or.inl ⟨by rfl, ?h26⟩) hSK (fun hSK => ?_)
              case h26 => intro w hSw; obtain ⟨⟨hd0, hd1⟩, hd2⟩ := hSw; first | (go_simp; done) | (go_simp; with_reducible rfl)
              try simp only [Act.put, List.setIfInBounds_toArray, List.set_cons_zero, List.set_cons_succ]
              refine takeK0 (i := 2) (v := ?v27) rfl (by kernel_rfl) (by kernel_rfl) (by kernel_rfl) rfl (fun _ _ _ h => h) (Or.inl ⟨by rfl, ?h27⟩) hSK (fun hSK => ?_)
              case h27 => intro w hSw; obtain ⟨hd0, hd1⟩ := hSw; first | (go_simp; done) | (go_simp; with_reducible rfl)
              try simp only [Act.put, List.setIfInBounds_toArray, List.set_cons_zero, List.set_cons_succ]
              refine takeK0 (i := 3) (v := ?v28) rfl (by kernel_rfl) (by kernel_rfl) (by kernel_rfl) rfl (fun _ _ _ h => h) (Or.inl ⟨by rfl, ?h28⟩) hSK (fun hSK => ?_)
              case h28 => intro w hSw; obtain ⟨hd0, hd1⟩ := hSw; first | (go_simp; done) | (go_simp; with_reducible rfl)
              try simp only [Act.put, List.setIfInBounds_toArray, List.set_cons_zero, List.set_cons_succ]
              refine takeK0 (i := 4) (v := ?v29) rfl (by kernel_rfl) (by kernel_rfl) (by kernel_rfl) rfl (fun _ _ _ h => h) (Or.inl ⟨by rfl, ?h29⟩) hSK (fun hSK => ?_)
              case h29 => intro w hSw; obtain ⟨hd0, hd1⟩ := hSw; first | (go_simp; done) | (go_simp; with_reducible rfl)
              try simp only [Act.put, List.setIfInBounds_toArray, List.set_cons_zero, List.set_cons_succ]
              refine takeK0 (i := 5) (v := ?v30) rfl (by kernel_rfl) (by kernel_rfl) (by kernel_rfl) rfl (fun _ _ _ h => h) (Or.inl ⟨by rfl, ?h30⟩) hSK (fun hSK => ?_)
              case h30 => intro w hSw; obtain ⟨hd0, hd1⟩ := hSw; first | (go_simp; done) | (go_simp; with_reducible rfl)
              try simp only [Act.put, List.setIfInBounds_toArray, List.set_cons_zero, List.set_cons_succ]
              refine takeK0 (i := 6) (v := ?v31) rfl (by kernel_rfl) (by kernel_rfl) (by kernel_rfl) rfl (fun _ _ _ h => h) (Or.inl ⟨by rfl, ?h31⟩) hSK (fun hSK => ?_)
              case h31 => intro w hSw; obtain ⟨hd0, hd1⟩ := hSw; first | (go_simp; done) | (go_simp; with_reducible rfl)
              try simp only [Act.put, List.setIfInBounds_toArray, List.set_cons_zero, List.set_cons_succ]
              refine readyL (i := 7) (by kernel_rfl) rfl (fun K hK => ?_)
              rw [if_pos (by rfl)]
              go_simp
              refine hK.out _ _ (SK.both (by first | exact ⟨a1, x1⟩ | exact ⟨(HX.out _ kS0).2.1, (HX.out _ kS0).2.2.2.2.2⟩ | exact ⟨(HX.out _ kS1).2.1, (HX.out _ kS1).2.2.2.2.2⟩ | exact ⟨(HX.out _ kS2).2.1, (HX.out _ kS2).2.2.2.2.2⟩) y2 _) (fun hSK => ?_)
              clear hK K
              try simp only [Act.put, List.setIfInBounds_toArray, List.set_cons_zero, List.set_cons_succ]
              refine readyL (i := 8) (by kernel_rfl) rfl (fun K hK => ?_)
              refine step_app_own rfl (.tmp 62) (.tmp 68) 30 9 _ 1 16 rfl Tryz.underlying30 Tryz.info9 rfl (by decide) (by decide) w0.heap.size (.slice A3 out.length c3) out.length (keyCells (out.map (·.2))) [.string (S x.2)] ⟨wc.heap.size, 0, none⟩ (by first | rfl | simp [Act.eval, Act.put]) (by first | rfl | simp [Act.eval, Act.put]) rfl (by intro u hu; simp at hu; subst hu; rfl) (cell_one_drew _ _ _) (hO2'.vn hll) hbs0 (by omega) ?_
              intro g1 cp1 W1 hrow1 k1 hg1
              obtain ⟨z0, f0, kS1, hO3, kS2⟩ := hO2'.val hll hrow1 k1 hg1
              refine hK.out _ _ (SK.both (by first | exact ⟨a1, x1⟩ | exact ⟨(HX.out _ kS0).2.1, (HX.out _ kS0).2.2.2.2.2⟩ | exact ⟨(HX.out _ kS1).2.1, (HX.out _ kS1).2.2.2.2.2⟩ | exact ⟨(HX.out _ kS2).2.1, (HX.out _ kS2).2.2.2.2.2⟩) (by first | exact z0 | assumption) _) (fun hSK => ?_)
              clear hK K
              try simp only [Act.put, List.setIfInBounds_toArray, List.set_cons_zero, List.set_cons_succ]
              refine takeK0 (i := 9) (v := ?v32) rfl (by kernel_rfl) (by kernel_rfl) (by kernel_rfl) rfl (fun _ _ _ h => h) (Or.inl ⟨by rfl, ?h32⟩) hSK (fun hSK => ?_)
              case h32 => intro w hSw; obtain ⟨hd0, hd1⟩ := hSw; first | (go_simp; done) | (go_simp; with_reducible rfl)
              try simp only [Act.put, List.setIfInBounds_toArray, List.set_cons_zero, List.set_cons_succ]
              refine readyL (i := 10) (by kernel_rfl) rfl (fun K hK => ?_)
              rw [if_pos (by rfl)]
              go_simp
              refine hK.out _ _ (SK.late (by first | exact ⟨a1, x1⟩ | exact ⟨(HX.out _ kS0).2.1, (HX.out _ kS0).2.2.2.2.2⟩ | exact ⟨(HX.out _ kS1).2.1, (HX.out _ kS1).2.2.2.2.2⟩ | exact ⟨(HX.out _ kS2).2.1, (HX.out _ kS2).2.2.2.2.2⟩) (by rfl)) (fun hSK => ?_)
              clear hK K
              try simp only [Act.put, List.setIfInBounds_toArray, List.set_cons_zero, List.set_cons_succ]
              refine doneL (by kernel_rfl) ?_ _
              all_goals
                clear hrow1 k1 hg1 z0 f0 kS1 y0 y1 y2 hS1 kS0 hO2' kS2
                generalize W1.setCell _ _ = wc at *
                have hO4 := hO3.snoc
                go_wp2
                go_roundw
                · exact ⟨j + 1, _, out ++ [x], _, _, by omega, rfl, rfl, Lib.hid (by exact Hw2.out), by rw [List.length_append, List.length_singleton]; omega, hO4⟩
                · simp only [intOf]; omega
        · have hlb : Op.bytesLess (S x.1).toList (S p.key).toList = false := by
            rw [hbf, hse, Bool.or_false] at hgt
            simpa using hgt
          have hw2 := Hw1.out
          rw [hbf, if_neg he, Bool.or_true] at hw2
          have Hw2 := Lib.hid hw2
          clear hgt hw2 Hw1
          cases dn with
          | true =>
            have hw3 := Hw2.out
            rw [if_neg (by simp), List.nil_append, ← List.append_assoc] at hw3
            have Hw3 := Lib.hid hw3
            clear hw3 Hw2 he
            go_wp2
            go_big_quiet (fail)
            have hO1 := hO.same ((Chg.refl _ wr).drewN nq)
            generalize wr.drewN nq = wa at *
            obtain ⟨a0, a1, p0, p1, x0, x1⟩ := HX.out wa hO1.c
            have hsn : (!((S x.1).toList == (S p.key).toList)) = true := by rw [hse]; rfl
            go_wp2
            go_big_quiet (fail)
            have hO2 := hO1.same ((Chg.refl _ wa).drewN nq)
            generalize wa.drewN nq = wb at *
            obtain ⟨a0, a1, p0, p1, x0, x1⟩ := HX.out wb hO2.c
            have y0 := hO2.b.cell 0
            simp only [List.getElem?_cons_zero, List.getElem?_cons_succ] at y0
            have hS1 : Same wb ((wb.alloc (.cells #[.string (S x.1)] 9)).drew) := ((Chg.refl _ wb).alloc _).drew
            have kS0 := hO2.c.trans hS1
            have hO2' := hO2.same hS1
            obtain ⟨A3, c3, hkv⟩ := hO2.len_k
            have hll : (out.map (·.1)).length = out.length := List.length_map _
            rw [hll] at hkv
            subst hkv
            have hbs0 := hO2'.c.size
            have y1 := hO2'.b.cell 0
            simp only [List.getElem?_cons_zero, List.getElem?_cons_succ] at y1
            have y2 : (wb.alloc (.cells #[.string (S x.1)] 9)).cell? ⟨w.heap.size + 1 + 1 + 1, 0, none⟩ = some (.slice A3 out.length c3) := y1
            go_wp2
            refine regionL (fun w' => w'.cell? ⟨w.heap.size, 0, none⟩ = some (.slice (some ⟨ba, oa, none⟩) m.length c1) ∧ w'.cell? ⟨ba, oa + j, none⟩ = some (.string (S x.1))) (fun w' => w'.cell? ⟨w.heap.size + 1 + 1 + 1, 0, none⟩ = some (.slice A3 out.length c3)) 10 (by kernel_rfl) (by first | exact ⟨a0, x0⟩ | exact ⟨(HX.out _ kS0).1, (HX.out _ kS0).2.2.2.2.1⟩ | exact ⟨(HX.out _ kS1).1, (HX.out _ kS1).2.2.2.2.1⟩ | exact ⟨(HX.out _ kS2).1, (HX.out _ kS2).2.2.2.2.1⟩) y0 (fun hSK => ?_)
            refine takeK0 (i := 0) (v := ?v33) rfl (by kernel_rfl) (by kernel_rfl) (by kernel_rfl) rfl (fun _ _ _ h => h) (Or.inl ⟨by rfl, ?h33⟩) hSK (fun hSK => ?_)
            case h33 => intro w hSw; obtain ⟨hd0, hd1⟩ := hSw; first | (go_simp; done) | (go_simp; with_reducible rfl)
            try simp only [Act.put, List.setIfInBounds_toArray, List.set_cons_zero, List.set_cons_succ]
            refine takeK1 (i := 1) (v := ?v34) rfl (by kernel_rfl) (by kernel_rfl) (by kernel_rfl) rfl (by kernel_rfl) rfl (fun _ _ _ h => h) (Or.inl ⟨by rfl, ?h34⟩) hSK (fun hSK => ?_)
            case h34 => intro w hSw; obtain ⟨⟨hd0, hd1⟩, hd2⟩ := hSw; first | (go_simp; done) | (go_simp; with_reducible rfl)
            try simp only [Act.put, List.setIfInBounds_toArray, List.set_cons_zero, List.set_cons_succ]
            refine takeK0 (i := 2) (v := ?v35) rfl (by kernel_rfl) (by kernel_rfl) (by kernel_rfl) rfl (fun _ _ _ h => h) (Or.inl ⟨by rfl, ?h35⟩) hSK (fun hSK => ?_)
            case h35 => intro w hSw; obtain ⟨hd0, hd1⟩ := hSw; first | (go_simp; done) | (go_simp; with_reducible rfl)
            try simp only [Act.put, List.setIfInBounds_toArray, List.set_cons_zero, List.set_cons_succ]
            refine takeK0 (i := 3) (v := ?v36) rfl (by kernel_rfl) (by kernel_rfl) (by kernel_rfl) rfl (fun _ _ _ h => h) (Or.inl ⟨by rfl, ?h36⟩) hSK (fun hSK => ?_)
            case h36 => intro w hSw; obtain ⟨hd0, hd1⟩ := hSw; first | (go_simp; done) | (go_simp; with_reducible rfl)
            try simp only [Act.put, List.setIfInBounds_toArray, List.set_cons_zero, List.set_cons_succ]
            refine takeK0 (i := 4) (v := ?v37) rfl (by kernel_rfl) (by kernel_rfl) (by kernel_rfl) rfl (fun _ _ _ h => h) (Or.inl ⟨by rfl, ?h37⟩) hSK (fun hSK => ?_)
            case h37 => intro w hSw; obtain ⟨hd0, hd1⟩ := hSw; first | (go_simp; done) | (go_simp; with_reducible rfl)
            try simp only [Act.put, List.setIfInBounds_toArray, List.set_cons_zero, List.set_cons_succ]
            refine takeK0 (i := 5) (v := ?v38) rfl (by kernel_rfl) (by kernel_rfl) (by kernel_rfl) rfl (fun _ _ _ h => h) (Or.inl ⟨by rfl, ?h38⟩) hSK (fun hSK => ?_)
            case h38 => intro w hSw; obtain ⟨hd0, hd1⟩ := hSw; first | (go_simp; done) | (go_simp; with_reducible rfl)
            try simp only [Act.put, List.setIfInBounds_toArray, List.set_cons_zero, List.set_cons_succ]
            refine takeK0 (i := 6) (v := ?v39) rfl (by kernel_rfl) (by kernel_rfl) (by kernel_rfl) rfl (fun _ _ _ h => h) (Or.inl ⟨by rfl, ?h39⟩) hSK (fun hSK => ?_)
            case h39 => intro w hSw; obtain ⟨hd0, hd1⟩ := hSw; first | (go_simp; done) | (go_simp; with_reducible rfl)
            try simp only [Act.put, List.setIfInBounds_toArray, List.set_cons_zero, List.set_cons_succ]
            refine readyL (i := 7) (by kernel_rfl) rfl (fun K hK => ?_)
            rw [if_pos (by rfl)]
            go_simp
            refine hK.out _ _ (SK.both (by first | exact ⟨a0, x0⟩ | exact ⟨(HX.out _ kS0).1, (HX.out _ kS0).2.2.2.2.1⟩ | exact ⟨(HX.out _ kS1).1, (HX.out _ kS1).2.2.2.2.1⟩ | exact ⟨(HX.out _ kS2).1, (HX.out _ kS2).2.2.2.2.1⟩) y2 _) (fun hSK => ?_)
            clear hK K
            try simp only [Act.put, List.setIfInBounds_toArray, List.set_cons_zero, List.set_cons_succ]
            refine readyL (i := 8) (by kernel_rfl) rfl (fun K hK => ?_)
            refine step_app_own rfl (.tmp 52) (.tmp 58) 30 9 _ 1 16 rfl Tryz.underlying30 Tryz.info9 rfl (by decide) (by decide) w0.heap.size (.slice A3 out.length c3) out.length (keyCells (out.map (·.1))) [.string (S x.1)] ⟨wb.heap.size, 0, none⟩ (by first | rfl | simp [Act.eval, Act.put]) (by first | rfl | simp [Act.eval, Act.put]) rfl (by intro u hu; simp at hu; subst hu; rfl) (cell_one_drew _ _ _) (hO2'.kn hll) hbs0 (by omega) ?_
            intro g1 cp1 W1 hrow1 k1 hg1
            obtain ⟨z0, f0, kS1, hO3, kS2⟩ := hO2'.key hll hrow1 k1 hg1
            refine hK.out _ _ (SK.both (by first | exact ⟨a0, x0⟩ | exact ⟨(HX.out _ kS0).1, (HX.out _ kS0).2.2.2.2.1⟩ | exact ⟨(HX.out _ kS1).1, (HX.out _ kS1).2.2.2.2.1⟩ | exact ⟨(HX.out _ kS2).1, (HX.out _ kS2).2.2.2.2.1⟩) (by first | exact z0 | assumption) _) (fun hSK => ?_)
            clear hK K
            try simp only [Act.put, List.setIfInBounds_toArray, List.set_cons_zero, List.set_cons_succ]
            refine takeK0 (i := 9) (v := ?v40) rfl (by kernel_rfl) (by kernel_rfl) (by kernel_rfl) rfl (fun _ _ _ h => h) (Or.inl ⟨by rfl, ?h40⟩) hSK (fun hSK => ?_)
            case h40 => intro w hSw; obtain ⟨hd0, hd1⟩ := hSw; first | (go_simp; done) | (go_simp; with_reducible rfl)
            try simp only [Act.put, List.setIfInBounds_toArray, List.set_cons_zero, List.set_cons_succ]
            refine readyL (i := 10) (by kernel_rfl) rfl (fun K hK => ?_)
            rw [if_pos (by rfl)]
            go_simp
            refine hK.out _ _ (SK.late (by first | exact ⟨a0, x0⟩ | exact ⟨(HX.out _ kS0).1, (HX.out _ kS0).2.2.2.2.1⟩ | exact ⟨(HX.out _ kS1).1, (HX.out _ kS1).2.2.2.2.1⟩ | exact ⟨(HX.out _ kS2).1, (HX.out _ kS2).2.2.2.2.1⟩) (by rfl)) (fun hSK => ?_)
            clear hK K
            try simp only [Act.put, List.setIfInBounds_toArray, List.set_cons_zero, List.set_cons_succ]
            refine doneL (by kernel_rfl) ?_ _
            all_goals
              clear hrow1 k1 hg1 z0 f0 kS1 y0 y1 y2 hS1 kS0 hO2' kS2
              generalize W1.setCell _ _ = wc at *
              obtain ⟨a0, a1, p0, p1, x0, x1⟩ := HX.out wc hO3.c
              have y0 := hO3.b.cell 1
              simp only [List.getElem?_cons_zero, List.getElem?_cons_succ] at y0
              have hS1 : Same wc ((wc.alloc (.cells #[.string (S x.2)] 9)).drew) := ((Chg.refl _ wc).alloc _).drew
              have kS0 := hO3.c.trans hS1
              have hO2' := hO3.same hS1
              obtain ⟨A3, c3, hkv⟩ := hO3.len_v
              have hll : (out.map (·.2)).length = out.length := List.length_map _
              rw [hll] at hkv
              subst hkv
              have hbs0 := hO2'.c.size
              have y1 := hO2'.b.cell 1
              simp only [List.getElem?_cons_zero, List.getElem?_cons_succ] at y1
              have y2 : (wc.alloc (.cells #[.string (S x.2)] 9)).cell? ⟨w.heap.size + 1 + 1 + 1, 1, none⟩ = some (.slice A3 out.length c3) := y1
              go_wp2
              refine regionL (fun w' => w'.cell? ⟨w.heap.size, 1, none⟩ = some (.slice (some ⟨bb, ob, none⟩) m.length c2) ∧ w'.cell? ⟨bb, ob + j, none⟩ = some (.string (S x.2))) (fun w' => w'.cell? ⟨w.heap.size + 1 + 1 + 1, 1, none⟩ = some (.slice A3 out.length c3)) 10 (by kernel_rfl) (by first | exact ⟨a1, x1⟩ | exact ⟨(HX.out _ kS0).2.1, (HX.out _ kS0).2.2.2.2.2⟩ | exact ⟨(HX.out _ kS1).2.1, (HX.out _ kS1).2.2.2.2.2⟩ | exact ⟨(HX.out _ kS2).2.1, (HX.out _ kS2).2.2.2.2.2⟩) y0 (fun hSK => ?_)
              refine takeK0 (i := 0) (v := ?v41) rfl (by kernel_rfl) (by kernel_rfl) (by kernel_rfl) rfl (fun _ _ _ h => h) (Or.inl ⟨by rfl, ?h41⟩) hSK (fun hSK => ?_)
              case h41 => intro w hSw; obtain ⟨hd0, hd1⟩ := hSw; first | (go_simp; done) | (go_simp; with_reducible rfl)
              try simp only [Act.put, List.setIfInBounds_toArray, List.set_cons_zero, List.set_cons_succ]
              refine takeK1 (i := 1) (v := ?v42) rfl (by kernel_rfl) (by kernel_rfl) (by kernel_rfl) rfl (by kernel_rfl) rfl (fun _ _ _ h => h) (Or.inl ⟨by rfl, ?h42⟩) hSK (fun hSK => ?_)
              case h42 => intro w hSw; obtain ⟨⟨hd0, hd1⟩, hd2⟩ := hSw; first | (go_simp; done) | (go_simp; with_reducible rfl)
              try simp only [Act.put, List.setIfInBounds_toArray, List.set_cons_zero, List.set_cons_succ]
              refine takeK0 (i := 2) (v := ?v43) rfl (by kernel_rfl) (by kernel_rfl) (by kernel_rfl) rfl (fun _ _ _ h => h) (Or.inl ⟨by rfl, ?h43⟩) hSK (fun hSK => ?_)
              case h43 => intro w hSw; obtain ⟨hd0, hd1⟩ := hSw; first | (go_simp; done) | (go_simp; with_reducible rfl)
              try simp only [Act.put, List.setIfInBounds_toArray, List.set_cons_zero, List.set_cons_succ]
              refine takeK0 (i := 3) (v := ?v44) rfl (by kernel_rfl) (by kernel_rfl) (by kernel_rfl) rfl (fun _ _ _ h => h) (Or.inl ⟨by rfl, ?h44⟩) hSK (fun hSK => ?_)
              case h44 => intro w hSw; obtain ⟨hd0, hd1⟩ := hSw; first | (go_simp; done) | (go_simp; with_reducible rfl)
              try simp only [Act.put, List.setIfInBounds_toArray, List.set_cons_zero, List.set_cons_succ]
              refine takeK0 (i := 4) (v := ?v45) rfl (by kernel_rfl) (by kernel_rfl) (by kernel_rfl) rfl (fun _ _ _ h => h) (Or.inl ⟨by rfl, ?h45⟩) hSK (fun hSK => ?_)
              case h45 => intro w hSw; obtain ⟨hd0, hd1⟩ := hSw; first | (go_simp; done) | (go_simp; with_reducible rfl)
              try simp only [Act.put, List.setIfInBounds_toArray, List.set_cons_zero, List.set_cons_succ]
              refine takeK0 (i := 5) (v := ?v46) rfl (by kernel_rfl) (by kernel_rfl) (by kernel_rfl) rfl (fun _ _ _ h => h) (Or.inl ⟨by rfl, ?h46⟩) hSK (fun hSK => ?_)
              case h46 => intro w hSw; obtain ⟨hd0, hd1⟩ := hSw; first | (go_simp; done) | (go_simp; with_reducible rfl)
              try simp only [Act.put, List.setIfInBounds_toArray, List.set_cons_zero, List.set_cons_succ]
              refine takeK0 (i := 6) (v := ?v47) rfl (by kernel_rfl) (by kernel_rfl) (by kernel_rfl) rfl (fun _ _ _ h => h) (Or.inl ⟨by rfl, ?h47⟩) hSK (fun hSK => ?_)
              case h47 => intro w hSw; obtain ⟨hd0, hd1⟩ := hSw; first | (go_simp; done) | (go_simp; with_reducible rfl)
              try simp only [Act.put, List.setIfInBounds_toArray, List.set_cons_zero, List.set_cons_succ]
              refine readyL (i := 7) (by kernel_rfl) rfl (fun K hK => ?_)
              rw [if_pos (by rfl)]
              go_simp
              refine hK.out _ _ (SK.both (by first | exact ⟨a1, x1⟩ | exact ⟨(HX.out _ kS0).2.1, (HX.out _ kS0).2.2.2.2.2⟩ | exact ⟨(HX.out _ kS1).2.1, (HX.out _ kS1).2.2.2.2.2⟩ | exact ⟨(HX.out _ kS2).2.1, (HX.out _ kS2).2.2.2.2.2⟩) y2 _) (fun hSK => ?_)
              clear hK K
              try simp only [Act.put, List.setIfInBounds_toArray, List.set_cons_zero, List.set_cons_succ]
              refine readyL (i := 8) (by kernel_rfl) rfl (fun K hK => ?_)
              refine step_app_own rfl (.tmp 62) (.tmp 68) 30 9 _ 1 16 rfl Tryz.underlying30 Tryz.info9 rfl (by decide) (by decide) w0.heap.size (.slice A3 out.length c3) out.length (keyCells (out.map (·.2))) [.string (S x.2)] ⟨wc.heap.size, 0, none⟩ (by first | rfl | simp [Act.eval, Act.put]) (by first | rfl | simp [Act.eval, Act.put]) rfl (by intro u hu; simp at hu; subst hu; rfl) (cell_one_drew _ _ _) (hO2'.vn hll) hbs0 (by omega) ?_
              intro g1 cp1 W1 hrow1 k1 hg1
              obtain ⟨z0, f0, kS1, hO3, kS2⟩ := hO2'.val hll hrow1 k1 hg1
              refine hK.out _ _ (SK.both (by first | exact ⟨a1, x1⟩ | exact ⟨(HX.out _ kS0).2.1, (HX.out _ kS0).2.2.2.2.2⟩ | exact ⟨(HX.out _ kS1).2.1, (HX.out _ kS1).2.2.2.2.2⟩ | exact ⟨(HX.out _ kS2).2.1, (HX.out _ kS2).2.2.2.2.2⟩) (by first | exact z0 | assumption) _) (fun hSK => ?_)
              clear hK K
              try simp only [Act.put, List.setIfInBounds_toArray, List.set_cons_zero, List.set_cons_succ]
              refine takeK0 (i := 9) (v := ?v48) rfl (by kernel_rfl) (by kernel_rfl) (by kernel_rfl) rfl (fun _ _ _ h => h) (Or.inl ⟨by rfl, ?h48⟩) hSK (fun hSK => ?_)
              case h48 => intro w hSw; obtain ⟨hd0, hd1⟩ := hSw; first | (go_simp; done) | (go_simp; with_reducible rfl)
              try simp only [Act.put, List.setIfInBounds_toArray, List.set_cons_zero, List.set_cons_succ]
              refine readyL (i := 10) (by kernel_rfl) rfl (fun K hK => ?_)
              rw [if_pos (by rfl)]
              go_simp
              refine hK.out _ _ (SK.late (by first | exact ⟨a1, x1⟩ | exact ⟨(HX.out _ kS0).2.1, (HX.out _ kS0).2.2.2.2.2⟩ | exact ⟨(HX.out _ kS1).2.1, (HX.out _ kS1).2.2.2.2.2⟩ | exact ⟨(HX.out _ kS2).2.1, (HX.out _ kS2).2.2.2.2.2⟩) (by rfl)) (fun hSK => ?_)
              clear hK K
              try simp only [Act.put, List.setIfInBounds_toArray, List.set_cons_zero, List.set_cons_succ]
              refine doneL (by kernel_rfl) ?_ _
              all_goals
                clear hrow1 k1 hg1 z0 f0 kS1 y0 y1 y2 hS1 kS0 hO2' kS2
                generalize W1.setCell _ _ = wc at *
                have hO4 := hO3.snoc
                go_wp2
                go_roundw
                · exact ⟨j + 1, _, out ++ [x], _, _, by omega, rfl, rfl, Lib.hid (by exact Hw3.out), by rw [List.length_append, List.length_singleton]; omega, hO4⟩
                · simp only [intOf]; omega
          | false =>
            have hw3 : ((out ++ [(p.key, p.blob)]) ++ [x]) ++ withG p true (m.drop (j + 1)) = withG p p.gone m := by
              rw [← Hw2.out, if_pos ⟨rfl, rfl⟩]; simp
            have Hw3 := Lib.hid hw3
            clear hw3 Hw2 he
            go_wp2
            go_big_quiet (fail)
            have hO1 := hO.same ((Chg.refl _ wr).drewN nq)
            generalize wr.drewN nq = wa at *
            obtain ⟨a0, a1, p0, p1, x0, x1⟩ := HX.out wa hO1.c
            have hll : (out.map (·.1)).length = out.length := List.length_map _
            have hlv : (out.map (·.2)).length = out.length := List.length_map _
            obtain ⟨A3, c3, hkv⟩ := hO1.len_k
            obtain ⟨A4, c4, hbv⟩ := hO1.len_v
            rw [hll] at hkv
            rw [hlv] at hbv
            subst hkv hbv
            obtain ⟨y0, y1, _⟩ := hO1.b.st2
            have y2 := hO1.b.cellA 0
            have y3 := hO1.b.cellA 1
            simp only [List.getElem?_cons_zero, List.getElem?_cons_succ] at y2 y3
            have hsn : (!((S x.1).toList == (S p.key).toList)) = true := by rw [hse]; rfl
            go_wp2_with (at_builtin; refine app_own rfl (.tmp 30) (.tmp 33) 30 9 _ 1 16 rfl Tryz.underlying30 Tryz.info9 rfl (by decide) (by decide) w0.heap.size (.slice A3 out.length c3) out.length (keyCells (out.map (·.1))) [.string (S p.key)] rfl rfl rfl ?c1 (hO1.kn hll) hO1.c.size ?c3 ?c4)
            case c1 => intro u hu; simp at hu; subst hu; rfl
            case c3 => omega
            case c4 =>
              intro g1 cp1 W1 hrow1 k1 hg1
              rw [← hsz0] at hrow1
              obtain ⟨z0, f0, kS1, hO3, kS2⟩ := hO1.key hll hrow1 k1 hg1
              clear hrow1 k1 hg1 y0 y1 y2 y3
              obtain ⟨a0, a1, p0, p1, x0, x1⟩ := HX.out _ kS2
              obtain ⟨y0, y1, _⟩ := hO3.b.st2
              have y2 := hO3.b.cellA 0
              have y3 := hO3.b.cellA 1
              simp only [List.getElem?_cons_zero, List.getElem?_cons_succ] at y2 y3
              go_wp2_with (at_builtin; refine app_own rfl (.tmp 37) (.tmp 40) 30 9 _ 1 16 rfl Tryz.underlying30 Tryz.info9 rfl (by decide) (by decide) w0.heap.size (.slice A4 out.length c4) out.length (keyCells (out.map (·.2))) [.string (S p.blob)] rfl (by simp [Act.eval]) rfl ?d1 (hO3.vn hlv) kS2.size ?d3 ?d4)
              case d1 => intro u hu; simp at hu; subst hu; rfl
              case d3 => omega
              case d4 =>
                intro g2 cp2 W2 hrow2 k2 hg2
                rw [← hsz0] at hrow2
                obtain ⟨z0, f0, kS3, hO4, kS4⟩ := hO3.val hlv hrow2 k2 (by simpa using hg2)
                have hO5 := hO4.snoc (y := (p.key, p.blob))
                clear hrow2 k2 hg2 y0 y1 y2 y3 hO4
                have hgen : ∃ wd, W2.setCell ⟨w.heap.size + 1 + 1 + 1, 1, none⟩ (.slice (some ⟨g2, 0, none⟩) (out.length + 1) cp2) = wd := ⟨_, rfl⟩
                obtain ⟨wd, hwd⟩ := hgen
                rw [hwd] at hO5 kS4
                have hgen : ∃ o2, out ++ [(p.key, p.blob)] = o2 := ⟨_, rfl⟩
                obtain ⟨o2, ho2⟩ := hgen
                have hol2 : o2.length ≤ 2 * j + 1 := by rw [← ho2, List.length_append, List.length_singleton]; omega
                rw [ho2] at hO5
                have hgen : ∃ kv3 bv3, WOut w0 (w.heap.size + 1 + 1 + 1) (o2.map (·.1)) (o2.map (·.2)) kv3 bv3 wd := ⟨_, _, hO5⟩
                obtain ⟨kv3, bv3, hO5⟩ := hgen
                have hw4 := Hw3.out
                rw [ho2] at hw4
                have Hw4 := Lib.hid hw4
                clear hw4 Hw3 ho2 hO1 hO3
                obtain ⟨a0, a1, p0, p1, x0, x1⟩ := HX.out wd hO5.c
                go_wp2
                try rw [hwd]
                go_big_quiet (fail)
                have hO2 := hO5.same ((Chg.refl _ wd).drewN nq)
                generalize wd.drewN nq = wb at *
                obtain ⟨a0, a1, p0, p1, x0, x1⟩ := HX.out wb hO2.c
                have y0 := hO2.b.cell 0
                simp only [List.getElem?_cons_zero, List.getElem?_cons_succ] at y0
                have hS1 : Same wb ((wb.alloc (.cells #[.string (S x.1)] 9)).drew) := ((Chg.refl _ wb).alloc _).drew
                have kS0 := hO2.c.trans hS1
                have hO2' := hO2.same hS1
                obtain ⟨A3, c3, hkv⟩ := hO2.len_k
                have hll : (o2.map (·.1)).length = o2.length := List.length_map _
                rw [hll] at hkv
                subst hkv
                have hbs0 := hO2'.c.size
                have y1 := hO2'.b.cell 0
                simp only [List.getElem?_cons_zero, List.getElem?_cons_succ] at y1
                have y2 : (wb.alloc (.cells #[.string (S x.1)] 9)).cell? ⟨w.heap.size + 1 + 1 + 1, 0, none⟩ = some (.slice A3 o2.length c3) := y1
                go_wp2
                refine regionL (fun w' => w'.cell? ⟨w.heap.size, 0, none⟩ = some (.slice (some ⟨ba, oa, none⟩) m.length c1) ∧ w'.cell? ⟨ba, oa + j, none⟩ = some (.string (S x.1))) (fun w' => w'.cell? ⟨w.heap.size + 1 + 1 + 1, 0, none⟩ = some (.slice A3 o2.length c3)) 10 (by kernel_rfl) (by first | exact ⟨a0, x0⟩ | exact ⟨(HX.out _ kS0).1, (HX.out _ kS0).2.2.2.2.1⟩ | exact ⟨(HX.out _ kS1).1, (HX.out _ kS1).2.2.2.2.1⟩ | exact ⟨(HX.out _ kS2).1, (HX.out _ kS2).2.2.2.2.1⟩) y0 (fun hSK => ?_)
                refine takeK0 (i := 0) (v := ?v49) rfl (by kernel_rfl) (by kernel_rfl) (by kernel_rfl) rfl (fun _ _ _ h => h) (Or.inl ⟨by rfl, ?h49⟩) hSK (fun hSK => ?_)
                case h49 => intro w hSw; obtain ⟨hd0, hd1⟩ := hSw; first | (go_simp; done) | (go_simp; with_reducible rfl)
                try simp only [Act.put, List.setIfInBounds_toArray, List.set_cons_zero, List.set_cons_succ]
                refine takeK1 (i := 1) (v := ?v50) rfl (by kernel_rfl) (by kernel_rfl) (by kernel_rfl) rfl (by kernel_rfl) rfl (fun _ _ _ h => h) (Or.inl ⟨by rfl, ?h50⟩) hSK (fun hSK => ?_)
                case h50 => intro w hSw; obtain ⟨⟨hd0, hd1⟩, hd2⟩ := hSw; first | (go_simp; done) | (go_simp; with_reducible rfl)
                try simp only [Act.put, List.setIfInBounds_toArray, List.set_cons_zero, List.set_cons_succ]
                refine takeK0 (i := 2) (v := ?v51) rfl (by kernel_rfl) (by kernel_rfl) (by kernel_rfl) rfl (fun _ _ _ h => h) (Or.inl ⟨by rfl, ?h51⟩) hSK (fun hSK => ?_)
                case h51 => intro w hSw; obtain ⟨hd0, hd1⟩ := hSw; first | (go_simp; done) | (go_simp; with_reducible rfl)
                try simp only [Act.put, List.setIfInBounds_toArray, List.set_cons_zero, List.set_cons_succ]
                refine takeK0 (i := 3) (v := ?v52) rfl (by kernel_rfl) (by kernel_rfl) (by kernel_rfl) rfl (fun _ _ _ h => h) (Or.inl ⟨by rfl, ?h52⟩) hSK (fun hSK => ?_)
                case h52 => intro w hSw; obtain ⟨hd0, hd1⟩ := hSw; first | (go_simp; done) | (go_simp; with_reducible rfl)
                try simp only [Act.put, List.setIfInBounds_toArray, List.set_cons_zero, List.set_cons_succ]
                refine takeK0 (i := 4) (v := ?v53) rfl (by kernel_rfl) (by kernel_rfl) (by kernel_rfl) rfl (fun _ _ _ h => h) (Or.inl ⟨by rfl, ?h53⟩) hSK (fun hSK => ?_)
                case h53 => intro w hSw; obtain ⟨hd0, hd1⟩ := hSw; first | (go_simp; done) | (go_simp; with_reducible rfl)
                try simp only [Act.put, List.setIfInBounds_toArray, List.set_cons_zero, List.set_cons_succ]
                refine takeK0 (i := 5) (v := ?v54) rfl (by kernel_rfl) (by kernel_rfl) (by kernel_rfl) rfl (fun _ _ _ h => h) (Or.inl ⟨by rfl, ?h54⟩) hSK (fun hSK => ?_)
                case h54 => intro w hSw; obtain ⟨hd0, hd1⟩ := hSw; first | (go_simp; done) | (go_simp; with_reducible rfl)
                try simp only [Act.put, List.setIfInBounds_toArray, List.set_cons_zero, List.set_cons_succ]
                refine takeK0 (i := 6) (v := ?v55) rfl (by kernel_rfl) (by kernel_rfl) (by kernel_rfl) rfl (fun _ _ _ h => h) (Or.inl ⟨by rfl, ?h55⟩) hSK (fun hSK => ?_)
                case h55 => intro w hSw; obtain ⟨hd0, hd1⟩ := hSw; first | (go_simp; done) | (go_simp; with_reducible rfl)
                try simp only [Act.put, List.setIfInBounds_toArray, List.set_cons_zero, List.set_cons_succ]
                refine readyL (i := 7) (by kernel_rfl) rfl (fun K hK => ?_)
                rw [if_pos (by rfl)]
                go_simp
                refine hK.out _ _ (SK.both (by first | exact ⟨a0, x0⟩ | exact ⟨(HX.out _ kS0).1, (HX.out _ kS0).2.2.2.2.1⟩ | exact ⟨(HX.out _ kS1).1, (HX.out _ kS1).2.2.2.2.1⟩ | exact ⟨(HX.out _ kS2).1, (HX.out _ kS2).2.2.2.2.1⟩) y2 _) (fun hSK => ?_)
                clear hK K
                try simp only [Act.put, List.setIfInBounds_toArray, List.set_cons_zero, List.set_cons_succ]
                refine readyL (i := 8) (by kernel_rfl) rfl (fun K hK => ?_)
                refine step_app_own rfl (.tmp 52) (.tmp 58) 30 9 _ 1 16 rfl Tryz.underlying30 Tryz.info9 rfl (by decide) (by decide) w0.heap.size (.slice A3 o2.length c3) o2.length (keyCells (o2.map (·.1))) [.string (S x.1)] ⟨wb.heap.size, 0, none⟩ (by first | rfl | simp [Act.eval, Act.put]) (by first | rfl | simp [Act.eval, Act.put]) rfl (by intro u hu; simp at hu; subst hu; rfl) (cell_one_drew _ _ _) (hO2'.kn hll) hbs0 (by omega) ?_
                intro g1 cp1 W1 hrow1 k1 hg1
                obtain ⟨z0, f0, kS1, hO3, kS2⟩ := hO2'.key hll hrow1 k1 hg1
                refine hK.out _ _ (SK.both (by first | exact ⟨a0, x0⟩ | exact ⟨(HX.out _ kS0).1, (HX.out _ kS0).2.2.2.2.1⟩ | exact ⟨(HX.out _ kS1).1, (HX.out _ kS1).2.2.2.2.1⟩ | exact ⟨(HX.out _ kS2).1, (HX.out _ kS2).2.2.2.2.1⟩) (by first | exact z0 | assumption) _) (fun hSK => ?_)
                clear hK K
                try simp only [Act.put, List.setIfInBounds_toArray, List.set_cons_zero, List.set_cons_succ]
                refine takeK0 (i := 9) (v := ?v56) rfl (by kernel_rfl) (by kernel_rfl) (by kernel_rfl) rfl (fun _ _ _ h => h) (Or.inl ⟨by rfl, ?h56⟩) hSK (fun hSK => ?_)
                case h56 => intro w hSw; obtain ⟨hd0, hd1⟩ := hSw; first | (go_simp; done) | (go_simp; with_reducible rfl)
                try simp only [Act.put, List.setIfInBounds_toArray, List.set_cons_zero, List.set_cons_succ]
                refine readyL (i := 10) (by kernel_rfl) rfl (fun K hK => ?_)
                rw [if_pos (by rfl)]
                go_simp
                refine hK.out _ _ (SK.late (by first | exact ⟨a0, x0⟩ | exact ⟨(HX.out _ kS0).1, (HX.out _ kS0).2.2.2.2.1⟩ | exact ⟨(HX.out _ kS1).1, (HX.out _ kS1).2.2.2.2.1⟩ | exact ⟨(HX.out _ kS2).1, (HX.out _ kS2).2.2.2.2.1⟩) (by rfl)) (fun hSK => ?_)
                clear hK K
                try simp only [Act.put, List.setIfInBounds_toArray, List.set_cons_zero, List.set_cons_succ]
                refine doneL (by kernel_rfl) ?_ _
                all_goals
                  clear hrow1 k1 hg1 z0 f0 kS1 y0 y1 y2 hS1 kS0 hO2' kS2
                  generalize W1.setCell _ _ = wc at *
                  obtain ⟨a0, a1, p0, p1, x0, x1⟩ := HX.out wc hO3.c
                  have y0 := hO3.b.cell 1
                  simp only [List.getElem?_cons_zero, List.getElem?_cons_succ] at y0
                  have hS1 : Same wc ((wc.alloc (.cells #[.string (S x.2)] 9)).drew) := ((Chg.refl _ wc).alloc _).drew
                  have kS0 := hO3.c.trans hS1
                  have hO2' := hO3.same hS1
                  obtain ⟨A3, c3, hkv⟩ := hO3.len_v
                  have hll : (o2.map (·.2)).length = o2.length := List.length_map _
                  rw [hll] at hkv
                  subst hkv
                  have hbs0 := hO2'.c.size
                  have y1 := hO2'.b.cell 1
                  simp only [List.getElem?_cons_zero, List.getElem?_cons_succ] at y1
                  have y2 : (wc.alloc (.cells #[.string (S x.2)] 9)).cell? ⟨w.heap.size + 1 + 1 + 1, 1, none⟩ = some (.slice A3 o2.length c3) := y1
                  go_wp2
                  refine regionL (fun w' => w'.cell? ⟨w.heap.size, 1, none⟩ = some (.slice (some ⟨bb, ob, none⟩) m.length c2) ∧ w'.cell? ⟨bb, ob + j, none⟩ = some (.string (S x.2))) (fun w' => w'.cell? ⟨w.heap.size + 1 + 1 + 1, 1, none⟩ = some (.slice A3 o2.length c3)) 10 (by kernel_rfl) (by first | exact ⟨a1, x1⟩ | exact ⟨(HX.out _ kS0).2.1, (HX.out _ kS0).2.2.2.2.2⟩ | exact ⟨(HX.out _ kS1).2.1, (HX.out _ kS1).2.2.2.2.2⟩ | exact ⟨(HX.out _ kS2).2.1, (HX.out _ kS2).2.2.2.2.2⟩) y0 (fun hSK => ?_)
                  refine takeK0 (i := 0) (v := ?v57) rfl (by kernel_rfl) (by kernel_rfl) (by kernel_rfl) rfl (fun _ _ _ h => h) (Or.inl ⟨by rfl, ?h57⟩) hSK (fun hSK => ?_)
                  case h57 => intro w hSw; obtain ⟨hd0, hd1⟩ := hSw; first | (go_simp; done) | (go_simp; with_reducible rfl)
                  try simp only [Act.put, List.setIfInBounds_toArray, List.set_cons_zero, List.set_cons_succ]
                  refine takeK1 (i := 1) (v := ?v58) rfl (by kernel_rfl) (by kernel_rfl) (by kernel_rfl) rfl (by kernel_rfl) rfl (fun _ _ _ h => h) (Or.inl ⟨by rfl, ?h58⟩) hSK (fun hSK => ?_)
                  case h58 => intro w hSw; obtain ⟨⟨hd0, hd1⟩, hd2⟩ := hSw; first | (go_simp; done) | (go_simp; with_reducible rfl)
                  try simp only [Act.put, List.setIfInBounds_toArray, List.set_cons_zero, List.set_cons_succ]
                  refine takeK0 (i := 2) (v := ?v59) rfl (by kernel_rfl) (by kernel_rfl) (by kernel_rfl) rfl (fun _ _ _ h => h) (Or.inl ⟨by rfl, ?h59⟩) hSK (fun hSK => ?_)
                  case h59 => intro w hSw; obtain ⟨hd0, hd1⟩ := hSw; first | (go_simp; done) | (go_simp; with_reducible rfl)
                  try simp only [Act.put, List.setIfInBounds_toArray, List.set_cons_zero, List.set_cons_succ]
                  refine takeK0 (i := 3) (v := ?v60) rfl (by kernel_rfl) (by kernel_rfl) (by kernel_rfl) rfl (fun _ _ _ h => h) (Or.inl ⟨by rfl, ?h60⟩) hSK (fun hSK => ?_)
                  case h60 => intro w hSw; obtain ⟨hd0, hd1⟩ := hSw; first | (go_simp; done) | (go_simp; with_reducible rfl)
                  try simp only [Act.put, List.setIfInBounds_toArray, List.set_cons_zero, List.set_cons_succ]
                  refine takeK0 (i := 4) (v := ?v61) rfl (by kernel_rfl) (by kernel_rfl) (by kernel_rfl) rfl (fun _ _ _ h => h) (Or.inl ⟨by rfl, ?h61⟩) hSK (fun hSK => ?_)
                  case h61 => intro w hSw; obtain ⟨hd0, hd1⟩ := hSw; first | (go_simp; done) | (go_simp; with_reducible rfl)
                  try simp only [Act.put, List.setIfInBounds_toArray, List.set_cons_zero, List.set_cons_succ]
                  refine takeK0 (i := 5) (v := ?v62) rfl (by kernel_rfl) (by kernel_rfl) (by kernel_rfl) rfl (fun _ _ _ h => h) (Or.inl ⟨by rfl, ?h62⟩) hSK (fun hSK => ?_)
                  case h62 => intro w hSw; obtain ⟨hd0, hd1⟩ := hSw; first | (go_simp; done) | (go_simp; with_reducible rfl)
                  try simp only [Act.put, List.setIfInBounds_toArray, List.set_cons_zero, List.set_cons_succ]
                  refine takeK0 (i := 6) (v := ?v63) rfl (by kernel_rfl) (by kernel_rfl) (by kernel_rfl) rfl (fun _ _ _ h => h) (Or.inl ⟨by rfl, ?h63⟩) hSK (fun hSK => ?_)
                  case h63 => intro w hSw; obtain ⟨hd0, hd1⟩ := hSw; first | (go_simp; done) | (go_simp; with_reducible rfl)
                  try simp only [Act.put, List.setIfInBounds_toArray, List.set_cons_zero, List.set_cons_succ]
                  refine readyL (i := 7) (by kernel_rfl) rfl (fun K hK => ?_)
                  rw [if_pos (by rfl)]
                  go_simp
                  refine hK.out _ _ (SK.both (by first | exact ⟨a1, x1⟩ | exact ⟨(HX.out _ kS0).2.1, (HX.out _ kS0).2.2.2.2.2⟩ | exact ⟨(HX.out _ kS1).2.1, (HX.out _ kS1).2.2.2.2.2⟩ | exact ⟨(HX.out _ kS2).2.1, (HX.out _ kS2).2.2.2.2.2⟩) y2 _) (fun hSK => ?_)
                  clear hK K
                  try simp only [Act.put, List.setIfInBounds_toArray, List.set_cons_zero, List.set_cons_succ]
                  refine readyL (i := 8) (by kernel_rfl) rfl (fun K hK => ?_)
                  refine step_app_own rfl (.tmp 62) (.tmp 68) 30 9 _ 1 16 rfl Tryz.underlying30 Tryz.info9 rfl (by decide) (by decide) w0.heap.size (.slice A3 o2.length c3) o2.length (keyCells (o2.map (·.2))) [.string (S x.2)] ⟨wc.heap.size, 0, none⟩ (by first | rfl | simp [Act.eval, Act.put]) (by first | rfl | simp [Act.eval, Act.put]) rfl (by intro u hu; simp at hu; subst hu; rfl) (cell_one_drew _ _ _) (hO2'.vn hll) hbs0 (by omega) ?_
                  intro g1 cp1 W1 hrow1 k1 hg1
                  obtain ⟨z0, f0, kS1, hO3, kS2⟩ := hO2'.val hll hrow1 k1 hg1
                  refine hK.out _ _ (SK.both (by first | exact ⟨a1, x1⟩ | exact ⟨(HX.out _ kS0).2.1, (HX.out _ kS0).2.2.2.2.2⟩ | exact ⟨(HX.out _ kS1).2.1, (HX.out _ kS1).2.2.2.2.2⟩ | exact ⟨(HX.out _ kS2).2.1, (HX.out _ kS2).2.2.2.2.2⟩) (by first | exact z0 | assumption) _) (fun hSK => ?_)
                  clear hK K
                  try simp only [Act.put, List.setIfInBounds_toArray, List.set_cons_zero, List.set_cons_succ]
                  refine takeK0 (i := 9) (v := ?v64) rfl (by kernel_rfl) (by kernel_rfl) (by kernel_rfl) rfl (fun _ _ _ h => h) (Or.inl ⟨by rfl, ?h64⟩) hSK (fun hSK => ?_)
                  case h64 => intro w hSw; obtain ⟨hd0, hd1⟩ := hSw; first | (go_simp; done) | (go_simp; with_reducible rfl)
                  try simp only [Act.put, List.setIfInBounds_toArray, List.set_cons_zero, List.set_cons_succ]
                  refine readyL (i := 10) (by kernel_rfl) rfl (fun K hK => ?_)
                  rw [if_pos (by rfl)]
                  go_simp
                  refine hK.out _ _ (SK.late (by first | exact ⟨a1, x1⟩ | exact ⟨(HX.out _ kS0).2.1, (HX.out _ kS0).2.2.2.2.2⟩ | exact ⟨(HX.out _ kS1).2.1, (HX.out _ kS1).2.2.2.2.2⟩ | exact ⟨(HX.out _ kS2).2.1, (HX.out _ kS2).2.2.2.2.2⟩) (by rfl)) (fun hSK => ?_)
                  clear hK K
                  try simp only [Act.put, List.setIfInBounds_toArray, List.set_cons_zero, List.set_cons_succ]
                  refine doneL (by kernel_rfl) ?_ _
                  all_goals
                    clear hrow1 k1 hg1 z0 f0 kS1 y0 y1 y2 hS1 kS0 hO2' kS2
                    generalize W1.setCell _ _ = wc at *
                    have hO4 := hO3.snoc
                    go_wp2
                    go_roundw
                    · exact ⟨j + 1, _, o2 ++ [x], _, _, by omega, rfl, rfl, Lib.hid (by exact Hw4.out), by rw [List.length_append, List.length_singleton]; omega, hO4⟩
                    · simp only [intOf]; omega

    · obtain rfl : j = m.length := by omega
      have hw1 := Hw.out
      rw [List.drop_of_length_le (Nat.le_refl _), withG] at hw1
      have hll : (out.map (·.1)).length = out.length := List.length_map _
      have hlv : (out.map (·.2)).length = out.length := List.length_map _
      obtain ⟨A3, c3, hkv⟩ := hO.len_k
      obtain ⟨A4, c4, hbv⟩ := hO.len_v
      rw [hll] at hkv
      rw [hlv] at hbv
      subst hkv hbv
      cases dn with
      | true =>
        rw [if_pos rfl, List.append_nil] at hw1
        have Hw1 := Lib.hid hw1
        clear hw1 Hw
        have hb4 := hb4.same hO.c
        obtain ⟨y0, y1, _⟩ := hO.b.st2
        obtain ⟨z0, z1, z2, z3⟩ := hb4.st2
        obtain ⟨f1, f2, ff, f3⟩ := hO.fin k0 (by omega) hb4
        go_wp2
        refine bodyPost_ret_by (results_cell_row rfl _ _ (w.heap.size + 1 + 1) 32 #[_, _] (0, 0) _ rfl f1 Tryz.underlying32 rfl (by kernel_rfl)) rfl ?_
        exact ⟨_, rfl, Hw1.out ▸ f2, ff, f3⟩
      | false =>
        rw [if_neg (by simp)] at hw1
        have Hw1 := Lib.hid hw1
        clear hw1 Hw
        obtain ⟨y0, y1, _⟩ := hO.b.st2
        have y2 := hO.b.cellA 0
        have y3 := hO.b.cellA 1
        simp only [List.getElem?_cons_zero, List.getElem?_cons_succ] at y2 y3
        go_wp2_with (at_builtin; refine app_own rfl (.tmp 74) (.tmp 77) 30 9 _ 1 16 rfl Tryz.underlying30 Tryz.info9 rfl (by decide) (by decide) w0.heap.size (.slice A3 out.length c3) out.length (keyCells (out.map (·.1))) [.string (S p.key)] rfl rfl rfl ?c1 (hO.kn hll) hO.c.size ?c3 ?c4)
        case c1 => intro u hu; simp at hu; subst hu; rfl
        case c3 => omega
        case c4 =>
          intro g1 cp1 W1 hrow1 k1 hg1
          rw [← hsz0] at hrow1
          obtain ⟨z0, f0, kS1, hO3, kS2⟩ := hO.key hll hrow1 k1 hg1
          clear hrow1 k1 hg1 y0 y1 y2 y3
          obtain ⟨y0, y1, _⟩ := hO3.b.st2
          have y2 := hO3.b.cellA 0
          have y3 := hO3.b.cellA 1
          simp only [List.getElem?_cons_zero, List.getElem?_cons_succ] at y2 y3
          have p1 := cell_chg kS2 p01 (fun h => h)
          go_wp2_with (at_builtin; refine app_own rfl (.tmp 81) (.tmp 84) 30 9 _ 1 16 rfl Tryz.underlying30 Tryz.info9 rfl (by decide) (by decide) w0.heap.size (.slice A4 out.length c4) out.length (keyCells (out.map (·.2))) [.string (S p.blob)] rfl (by simp [Act.eval]) rfl ?d1 (hO3.vn hlv) kS2.size ?d3 ?d4)
          case d1 => intro u hu; simp at hu; subst hu; rfl
          case d3 => omega
          case d4 =>
            intro g2 cp2 W2 hrow2 k2 hg2
            rw [← hsz0] at hrow2
            obtain ⟨z0, f0, kS3, hO4, kS4⟩ := hO3.val hlv hrow2 k2 (by simpa using hg2)
            have hO5 := hO4.snoc (y := (p.key, p.blob))
            clear hrow2 k2 hg2 y0 y1 y2 y3
            have hb4 := hb4.same hO5.c
            obtain ⟨y0, y1, _⟩ := hO5.b.st2
            obtain ⟨v0, v1, v2, v3⟩ := hb4.st2
            obtain ⟨f1, f2, ff, f3⟩ := hO5.fin k0 (by omega) hb4
            go_wp2
            refine bodyPost_ret_by (results_cell_row rfl _ _ (w.heap.size + 1 + 1) 32 #[_, _] (0, 0) _ rfl f1 Tryz.underlying32 rfl (by kernel_rfl)) rfl ?_
            exact ⟨_, rfl, Hw1.out ▸ f2, ff, f3⟩
end Go.Proofs.Obj
