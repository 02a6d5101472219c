/-
  Allocations.
-/
import Derived.Test.YtdncenepmkbolaaAbsX
namespace Go.Abs
open Go

section
variable {P : Program} {E : Env} {ρ : Pl} {fr : T AV} {ev : Operand → Value}

/-- rows, and the cells that they are -/
structure Grid (ρ : Pl) (size : Nat) (rows : List (List AV)) (C : Array Value) : Prop where
  count : C.size = rows.length * size
  wide : ∀ (i : Nat) (r : List AV), rows[i]? = some r → r.length = size
  cell : ∀ (i j : Nat) (r : List AV) (v : AV), rows[i]? = some r → r[j]? = some v → ∃ u, VS ρ v u ∧ C[i * size + j]? = some u

theorem Grid.mono {ρ' : Pl} (he : Ext ρ ρ') {size : Nat} {rows : List (List AV)} {C : Array Value} (h : Grid ρ size rows C) : Grid ρ' size rows C :=
  ⟨h.count, h.wide, fun i j r v h1 h2 => by obtain ⟨u, k1, k2⟩ := h.cell i j r v h1 h2; exact ⟨u, k1.mono he, k2⟩⟩

theorem Grid.one {cs : List AV} {C : Array Value} (h : VL ρ cs C.toList) {n : Nat} (hn : cs.length = n) : Grid ρ n [cs] C := by
  have hl := h.length
  refine ⟨by simp at hl ⊢; omega, fun i r hi => ?_, fun i j r v hi hj => ?_⟩
  · cases i with
    | zero => simp at hi; subst hi; exact hn
    | succ i => simp at hi
  · cases i with
    | zero =>
      simp at hi; subst hi
      obtain ⟨u, h1, h2⟩ := h.get hj
      exact ⟨u, h2, by simpa using h1⟩
    | succ i => simp at hi

theorem mod_lt_self (i size j : Nat) (hj : j < size) : (i * size + j) % size = j := by
  rw [Nat.add_comm, Nat.add_mul_mod_self_right]; exact Nat.mod_eq_of_lt hj

theorem Grid.zero {zs : List AV} {z : Array Value} (h : VL ρ zs z.toList) {size : Nat} (hs : zs.length = size) (n : Nat) :
    Grid ρ size (List.replicate n zs) ((Array.range (n * size)).map (z[· % z.size]!)) := by
  have hl := h.length
  have hz : z.size = size := by simp at hl; omega
  refine ⟨by simp, fun i r hi => ?_, fun i j r v hi hj => ?_⟩
  · rw [List.getElem?_replicate] at hi
    split at hi <;> cases hi
    exact hs
  · rw [List.getElem?_replicate] at hi
    split at hi <;> cases hi
    rename_i hin
    obtain ⟨u, h1, h2⟩ := h.get hj
    have hj' : j < size := by rw [← hs]; exact (List.getElem?_eq_some_iff.1 hj).1
    have hlt : i * size + j < n * size := by
      have : (i + 1) * size ≤ n * size := Nat.mul_le_mul_right _ hin
      rw [Nat.add_mul] at this; omega
    refine ⟨u, h2, ?_⟩
    have hjz : j < z.size := by omega
    have hu : z[j]? = some u := by simpa using h1
    have hzj : z[j]! = u := by
      rw [getElem!_def, hu]
    simp [hlt, hz, mod_lt_self i size j hj', hzj]

theorem setAt_get {α : Type} {l z : List α} {n : Nat} {x : α} (h : setAt l n x = some z) : n < l.length ∧ z.length = l.length ∧ ∀ i, z[i]? = if i = n then some x else l[i]? := by
  obtain ⟨h1, _⟩ := atN_over h
  refine ⟨by simp at h1; omega, atN_over_len h, fun i => ?_⟩
  rw [atN_over_get h]
  simp only [List.length_cons, List.length_nil]
  by_cases hi : i < n
  · rw [if_pos hi, if_neg (by omega)]
  · rw [if_neg hi]
    by_cases hi' : i = n
    · subst hi'; simp
    · rw [if_neg (by omega), if_neg hi']

theorem Grid.set {size : Nat} {rows rows' : List (List AV)} {C : Array Value} (h : Grid ρ size rows C) {n : Nat} {cs : List AV} (hs : setAt rows n cs = some rows') {us : List Value} (hu : VL ρ cs us) (hl : cs.length = size)
    {C' : Array Value} (hC : C'.toList = C.toList.take (n * size) ++ us ++ C.toList.drop (n * size + us.length)) : Grid ρ size rows' C' := by
  obtain ⟨h1, h2, h3⟩ := setAt_get hs
  have hul := hu.length
  have hfit : n * size + us.length ≤ C.size := by
    rw [h.count, hul, hl]
    have : (n + 1) * size ≤ rows.length * size := Nat.mul_le_mul_right _ h1
    rw [Nat.add_mul] at this; omega
  have hget : ∀ k, C'[k]? = if k < n * size then C[k]? else if k < n * size + us.length then us[k - n * size]? else C[k]? := fun k => by
    rw [← Array.getElem?_toList, hC, List.append_assoc]
    have ht : (C.toList.take (n * size)).length = n * size := by simp; omega
    split
    · rw [List.getElem?_append_left (by omega), List.getElem?_take]; simp [*]
    · rw [List.getElem?_append_right (by omega), ht]
      split
      · rw [List.getElem?_append_left (by omega)]
      · rw [List.getElem?_append_right (by omega), List.getElem?_drop]
        rw [← Array.getElem?_toList]; congr 1; omega
  refine ⟨?_, fun i r hi => ?_, fun i j r v hi hj => ?_⟩
  · have := congrArg List.length hC
    simp at this
    rw [h2, ← h.count]; omega
  · rw [h3] at hi
    split at hi
    · cases hi; exact hl
    · exact h.wide i r hi
  · rw [h3] at hi
    rw [hget]
    split at hi
    · rename_i e; subst e
      cases hi
      obtain ⟨u, k1, k2⟩ := hu.get hj
      refine ⟨u, k2, ?_⟩
      have : j < us.length := (List.getElem?_eq_some_iff.1 k1).1
      rw [if_neg (by omega), if_pos (by omega), Nat.add_sub_cancel_left]; exact k1
    · rename_i hne
      obtain ⟨u, k1, k2⟩ := h.cell i j r v hi hj
      have hj' : j < size := by rw [← h.wide i r hi]; exact (List.getElem?_eq_some_iff.1 hj).1
      refine ⟨u, k1, ?_⟩
      rcases Nat.lt_or_ge i n with hlt | hge
      · have : (i + 1) * size ≤ n * size := Nat.mul_le_mul_right _ hlt
        rw [Nat.add_mul] at this
        rw [if_pos (by omega)]; exact k2
      · have : (n + 1) * size ≤ i * size := Nat.mul_le_mul_right _ (by omega)
        rw [Nat.add_mul] at this
        rw [if_neg (by omega), if_neg (by omega)]; exact k2

theorem fillR_cons (size : Nat) (p : Nat × AV) (ps : List (Nat × AV)) (rows : List (List AV)) : fillR size (p :: ps) rows =
    match p.2.cellsN size with
    | some cs => match setAt rows p.1 cs with
      | some rows => fillR size ps rows
      | none => none
    | none => none := rfl

theorem fillR_sound {size : Nat} : ∀ {ps : List (Nat × AV)} {parts : List (Nat × Value)} {rows rows' : List (List AV)} {C : Array Value},
    PX ρ ps parts → fillR size ps rows = some rows' → Grid ρ size rows C → ∃ C' : Array Value, Instr.fill (fun i => some (i * size, size)) C parts = some C' ∧ Grid ρ size rows' C'
  | [], parts, rows, rows', C, h, k, hc => by
    simp only [PX] at h; subst h; cases k; exact ⟨C, rfl, hc⟩
  | (i, a) :: r, parts, rows, rows', C, h, k, hc => by
    obtain ⟨v, l', h1, h2, rfl⟩ := h
    rw [fillR_cons] at k
    split at k
    · rename_i cs hcs
      split at k
      · rename_i rows2 h3
        obtain ⟨q1, q2, q3⟩ := cellsN_sound h1 hcs
        obtain ⟨g1, g2, g3⟩ := setAt_get h3
        have ql := q1.length
        have hfit' : i * size + v.cells.toList.length ≤ C.size := by
          rw [hc.count, ql, q2]
          have : (i + 1) * size ≤ rows.length * size := Nat.mul_le_mul_right _ g1
          rw [Nat.add_mul] at this; omega
        have hfit : ¬ (v.cells.size ≠ size || i * size + v.cells.size > C.size) = true := by
          simp at hfit' ⊢
          exact ⟨q3, by omega⟩
        have hfold : (v.cells.zipIdx.foldl (fun cs (c, j) => cs.setIfInBounds (i * size + j) c) C).toList = C.toList.take (i * size) ++ v.cells.toList ++ C.toList.drop (i * size + v.cells.toList.length) := by
          have := foldSet (i * size) v.cells.toList 0 C (by simpa using hfit')
          rw [← Array.foldl_toList, Array.toList_zipIdx]
          simpa using this
        obtain ⟨C', e1, e2⟩ := fillR_sound h2 k (hc.set h3 q1 q2 hfold)
        refine ⟨C', ?_, e2⟩
        simp only [Instr.fill]
        rw [if_neg hfit]; exact e1
      · cases k
    · cases k

/-- a block just made -/
theorem BlkOk.made {w : World} {size : Nat} {rows : List (List AV)} {C : Array Value} {e : TypeId} (hg : Grid ρ size rows C) : BlkOk ρ (w.alloc (.cells C e)) ⟨w.heap.size, 0, rows.length, size⟩ (.rows size rows false none none) := by
  refine ⟨⟨hg.wide, fun i j r v h1 h2 => ?_⟩, fun _ => ⟨rfl, fun o ho => by simp, fun o ho => ?_, Nat.le_refl _⟩⟩
  · obtain ⟨u, k1, k2⟩ := hg.cell i j r v h1 h2
    exact ⟨u, k1, by simp only [Nat.zero_add]; rw [World.cell?_alloc_new]; exact k2⟩
  · have : o < C.size := by rw [hg.count]; exact ho
    exact ⟨C[o], by simp only [Nat.zero_add]; rw [World.cell?_alloc_new]; simp [this]⟩

theorem alloc_sound (hE : EnvOk P E) {o : Oper} {x : Blk} {mk : Nat → AV} (h : allocA E fr o.op = some (x, mk)) (hk : Knows ρ fr ev o.op.operands) (w : World) :
    ∃ u C e l, (execOp ev o).run P w = .ok (.value u) (w.alloc (.cells C e)) ∧ l.blk = w.heap.size ∧ x.prev = none ∧ x.next = none ∧
      ∀ id, ρ id = none → BlkOk (ρ.add id l) (w.alloc (.cells C e)) l x ∧ VR (ρ.add id l) (mk id) u := by
  have fin : ∀ (size : Nat) (rows : List (List AV)) (C : Array Value) (e : TypeId) (mk : Nat → AV) (u : Value), Grid ρ size rows C → (execOp ev o).run P w = .ok (.value u) (w.alloc (.cells C e)) →
      (∀ id, VR (ρ.add id ⟨w.heap.size, 0, rows.length, size⟩) (mk id) u) →
      ∃ u C e l, (execOp ev o).run P w = .ok (.value u) (w.alloc (.cells C e)) ∧ l.blk = w.heap.size ∧ (Blk.rows size rows false none none).prev = none ∧ (Blk.rows size rows false none none).next = none ∧
      ∀ id, ρ id = none → BlkOk (ρ.add id l) (w.alloc (.cells C e)) l (.rows size rows false none none) ∧ VR (ρ.add id l) (mk id) u := fun size rows C e mk u hg hrun hv =>
    ⟨u, C, e, _, hrun, rfl, rfl, rfl, fun id hid => ⟨BlkOk.made (hg.mono (Pl.ext_add hid)), hv id⟩⟩
  obtain ⟨dst, op, type, pos, after, guard⟩ := o
  cases op <;> simp only [allocA] at h <;> try (cases h; done)
  case alloc t =>
    split at h
    · rename_i ti hti
      cases h
      obtain ⟨i, z, d, hT⟩ := hE.tt _ _ hti
      exact fin _ _ z.cells t _ (.pointer (some ⟨w.heap.size, 0, none⟩)) (Grid.one (hT.zcells ρ) hT.zlen) (by simp [execOp, Instr.alloc, hT.run_zero w, newVar, newRow]) fun id => ⟨⟨w.heap.size, 0, 1, ti.size⟩, by simp [Pl.add], rfl⟩
    · cases h
  case box t x =>
    split at h
    · rename_i ti v hti hx
      split at h
      · rename_i cs hcs
        cases h
        obtain ⟨q1, q2, q3⟩ := cellsN_sound (hk x (by simp [Op.operands]) _ hx) hcs
        exact fin _ _ (ev x).cells t _ (.pointer (some ⟨w.heap.size, 0, none⟩)) (Grid.one q1 q2) (by simp [execOp, Instr.box, newVar, newRow]) fun id => ⟨⟨w.heap.size, 0, 1, ti.size⟩, by simp [Pl.add], rfl⟩
      · cases h
    · cases h
  case buildSlice t len ps =>
    split at h
    · rename_i ti vs hti hvs
      obtain ⟨i, z, d, hT⟩ := hE.tt _ _ hti
      have hkk := hT.k
      have hd := hT.und
      have hps : PX ρ vs (ps.map fun (i, x) => (i, ev x)).toList := by
        rw [Array.toList_map]
        exact partsOf_sound hvs fun i x hx v hv => hk x (by simp only [Op.operands, List.mem_toArray, List.mem_map]; exact ⟨(i, x), hx, rfl⟩) v hv
      split at h
      · rename_i e hke
        rw [hke] at hkk
        have := tkOf_slice hkk; subst this
        split at h
        · rename_i te hte
          obtain ⟨i', z', d', hT'⟩ := hE.tt _ _ hte
          split at h
          · rename_i s hs hle
            split at h
            · rename_i rs hrs
              cases h
              have hle' : len * te.size ≤ 65536 := Nat.le_of_ble_eq_true hle
              have hzs : z'.cells.size = te.size := by have := (hT'.zcells ρ).length; rw [hT'.zlen] at this; simpa using this
              obtain ⟨C, e1, e2⟩ := fillR_sound hps hrs (Grid.zero (hT'.zcells ρ) hT'.zlen len)
              refine fin _ _ C e _ (.slice (some ⟨w.heap.size, 0, none⟩) len len) e2 ?_ fun id => ⟨⟨w.heap.size, 0, rs.length, te.size⟩, by simp [Pl.add], rfl⟩
              have hnb : ¬ (len * te.size > 2 ^ 24) := by omega
              by_cases hl0 : len * te.size = 0
              · have : len = 0 := by
                  rcases Nat.mul_eq_zero.1 hl0 with e | e
                  · exact e
                  · omega
                subst this
                have hC0 : ∀ f : Nat → Value, (Array.range (0 * te.size)).map f = #[] := fun f => by simp
                rw [hC0] at e1
                have e1' : Instr.fill (fun i => some (i * te.size, te.size)) #[] (ps.toList.map fun x => (x.fst, ev x.snd)) = some C := by simpa using e1
                simp [execOp, Instr.buildSlice, run_underlying hd, hT'.run_size w, e1', newRow, Array.range_zero']
              · simp only [execOp, Instr.buildSlice, run_underlying hd, hT'.run_size w, Sem.run_bind, Result.andThen_ok, hnb, if_false, hl0, Sem.run_pure, hT'.run_zero w, e1, newRow]
                simp
            · cases h
          · cases h
        · cases h
      · cases h
    · cases h
  case makeSlice t lx cx =>
    split at h
    · rename_i ti k1 l k2 c hti hl hc
      obtain ⟨i, z, d, hT⟩ := hE.tt _ _ hti
      have hkk := hT.k
      have hd := hT.und
      have hlv := VR.int (hk lx (by simp [Op.operands]) _ hl)
      have hcv := VR.int (hk cx (by simp [Op.operands]) _ hc)
      split at h
      · rename_i e l' c' hke hl' hc'
        rw [hke] at hkk
        have := tkOf_slice hkk; subst this
        have := natOf_eq hl'; subst this
        have := natOf_eq hc'; subst this
        split at h
        · rename_i te hte
          obtain ⟨i', z', d', hT'⟩ := hE.tt _ _ hte
          split at h
          · rename_i s hs h1 h2 h3
            cases h
            have h1' : l' ≤ c' := Nat.le_of_ble_eq_true h1
            have h2' : c' * te.bytes ≤ 1099511627776 := Nat.le_of_ble_eq_true h2
            have h3' : c' ≤ 1099511627776 := Nat.le_of_ble_eq_true h3
            have hb : (i'.bytes : Int) * (c' : Int) ≤ 281474976710656 := by
              rw [hT'.bytes]
              have : ((te.bytes * c' : Nat) : Int) ≤ 281474976710656 := by rw [Nat.mul_comm]; omega
              rwa [Int.natCast_mul] at this
            have hrun := run_make (P := P) w t e i' z' hd hT'.info hT'.zero k1 k2 l' c' (by omega) (by omega) hb (by omega)
            simp only [Int.toNat_natCast, hT'.size] at hrun
            refine fin _ _ (madeCells z'.cells (c' * te.size)) e _ (.slice (some ⟨w.heap.size, 0, none⟩) l' c') (Grid.zero (hT'.zcells ρ) hT'.zlen c') ?_ fun id => ⟨⟨w.heap.size, 0, (List.replicate c' te.zero).length, te.size⟩, by simp [Pl.add], rfl⟩
            simp [execOp, hlv, hcv, hrun]
          · cases h
        · cases h
      · cases h
    · cases h
end
end Go.Abs
