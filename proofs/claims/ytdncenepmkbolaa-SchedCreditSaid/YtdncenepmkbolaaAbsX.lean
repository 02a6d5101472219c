/-
  Reads, and allocations.
-/
import Derived.Test.YtdncenepmkbolaaAbsV
namespace Go.Abs
open Go

section
variable {P : Program} {E : Env} {ρ : Pl} {fr : T AV} {ev : Operand → Value}

/-- cells of the world, from a place on -/
def Cells (w : World) (b o : Nat) (us : List Value) : Prop := ∀ (j : Nat) (u : Value), us[j]? = some u → w.cell? ⟨b, o + j, none⟩ = some u

theorem VL.of_cells : ∀ (cs : List AV) (f : Nat → Option Value), (∀ (j : Nat) (v : AV), cs[j]? = some v → ∃ u, VS ρ v u ∧ f j = some u) → ∃ us, VL ρ cs us ∧ ∀ (j : Nat) (u : Value), us[j]? = some u → f j = some u
  | [], f, _ => ⟨[], rfl, by simp⟩
  | c :: cs, f, h => by
    obtain ⟨u, h1, h2⟩ := h 0 c rfl
    obtain ⟨us, h3, h4⟩ := VL.of_cells cs (fun j => f (j + 1)) (fun j v hv => h (j + 1) v (by simpa using hv))
    refine ⟨u :: us, ⟨u, us, h1, h3, rfl⟩, fun j x hx => ?_⟩
    cases j with
    | zero => simp at hx; subst hx; exact h2
    | succ j => exact h4 j x (by simpa using hx)

theorem R.rows {h : H} {w : World} (hr : R ρ h w) {b : Nat} {l : Loc} (hb : ρ b = some l) {es : Nat} {rs : List (List AV)} {ro : Bool} {p n : Option Nat} (hx : h.get b = some (.rows es rs ro p n)) :
    RowsOk ρ w l es rs ∧ (ro = false → RowsMay w l es rs.length) := hr.blk _ _ _ hb hx

theorem load_sound {h : H} {w : World} (hr : R ρ h w) {b o n : Nat} {cs : List AV} (hl : h.load b o n = some cs) {l : Loc} (hb : ρ b = some l) :
    cs.length = n ∧ ∃ us, VL ρ cs us ∧ Cells w l.blk (l.off + o) us := by
  unfold H.load at hl
  split at hl
  · rename_i es rs ro p nx hg
    obtain ⟨hw, _⟩ := hr.rows hb hg
    split at hl
    · rename_i r hrr
      rw [nth_eq] at hrr
      have hlen := hw.width _ _ hrr
      have hoff : o / es * es + o % es = o := by rw [Nat.mul_comm]; exact Nat.div_add_mod o es
      have key : cs.length = n ∧ ∀ (j : Nat) (v : AV), cs[j]? = some v → r[o % es + j]? = some v := by
        split at hl
        · rename_i h0 hn
          cases hl
          have hn' : n = es := by simpa using hn
          refine ⟨by omega, fun j v hv => ?_⟩
          rw [h0, Nat.zero_add]; exact hv
        · obtain ⟨h1, h2⟩ := (takeN_eq _ _ _).1 hl
          rw [dropN_eq] at h1 h2
          subst h2
          refine ⟨by simp only [List.length_take]; omega, fun j v hv => ?_⟩
          rw [List.getElem?_take] at hv
          split at hv
          · rwa [List.getElem?_drop] at hv
          · cases hv
      refine ⟨key.1, ?_⟩
      obtain ⟨us, h1, h2⟩ := VL.of_cells (ρ := ρ) cs (fun j => w.cell? ⟨l.blk, l.off + o + j, none⟩) fun j v hv => by
        obtain ⟨u, k1, k2⟩ := hw.cell _ _ _ _ hrr (key.2 j v hv)
        refine ⟨u, k1, ?_⟩
        rw [← k2]
        congr 2; omega
      exact ⟨us, h1, h2⟩
    · cases hl
  · cases hl

theorem run_loadVar {t : TypeId} {ti : TI} {i : TypeInfo} {z : Value} {d : TypeDesc} (hT : TIok P t ti i z d) {w : World} {b o : Nat} {cs : List AV} {us : List Value} (hl : cs.length = ti.size) (hu : VL ρ cs us) (hc : Cells w b o us) {v : AV} (hv : mkV ti cs = some v) :
    ∃ u, VR ρ v u ∧ (loadVar t ⟨b, o, none⟩).run P w = .ok u w := by
  rcases mkV_sound hv hu with ⟨ha, rfl⟩ | ⟨ha, a, u, rfl, rfl, rfl, e4⟩
  · refine ⟨.agg us.toArray, ⟨us, hu, rfl⟩, ?_⟩
    have := run_loadCells_list (P := P) w ⟨b, o, none⟩ us (fun j u hj => by rw [add_plain]; exact hc j u hj)
    rw [hu.length, hl] at this
    simp [loadVar, hT.run_agg w, ha, hT.run_size w, this]
  · refine ⟨u, VR.of_V1 (V1.of_VS e4), ?_⟩
    have := hc 0 u rfl
    rw [Nat.add_zero] at this
    simp [loadVar, hT.run_agg w, ha, this]

/-- a slice's elements -/
structure Elems (P : Program) (ρ : Pl) (w : World) (size : Nat) (rows : List (List AV)) (p : Value) : Prop where
  wide : ∀ (i : Nat) (r : List AV), rows[i]? = some r → r.length = size
  len : (Builtin.lenOf p).run P w = .ok rows.length w
  cells : ∃ us, VL ρ rows.flatten us ∧ us.length = rows.length * size ∧ ∀ w' n, w'.heap = w.heap → n ≤ rows.length → (Builtin.firstCells size n p).run P w' = .ok (us.take (n * size)).toArray w'

theorem flatten_get {α : Type} (size : Nat) : ∀ (rows : List (List α)), (∀ (i : Nat) (r : List α), rows[i]? = some r → r.length = size) → rows.flatten.length = rows.length * size ∧
    ∀ (k : Nat) (x : α), rows.flatten[k]? = some x → ∃ r, rows[k / size]? = some r ∧ r[k % size]? = some x
  | [], _ => ⟨by simp, by simp⟩
  | r :: rows, h => by
    have hr := h 0 r rfl
    obtain ⟨h1, h2⟩ := flatten_get size rows (fun i x hx => h (i + 1) x (by simpa using hx))
    refine ⟨by simp [hr, h1, Nat.add_mul, Nat.add_comm], fun k x hx => ?_⟩
    rw [List.flatten_cons] at hx
    by_cases hk : k < size
    · rw [List.getElem?_append_left (by omega)] at hx
      exact ⟨r, by rw [Nat.div_eq_of_lt hk]; rfl, by rw [Nat.mod_eq_of_lt hk]; exact hx⟩
    · rw [List.getElem?_append_right (by omega), hr] at hx
      obtain ⟨r', e1, e2⟩ := h2 _ _ hx
      have hs : 0 < size := by
        rcases Nat.eq_zero_or_pos size with e | e
        · subst e
          have hf : rows.flatten.length = 0 := by rw [h1]; simp
          have := List.length_eq_zero_iff.1 hf
          rw [this] at hx; simp at hx
        · exact e
      have hd : k / size = (k - size) / size + 1 := by
        rw [← Nat.add_div_right _ hs, Nat.sub_add_cancel (by omega)]
      have hm : k % size = (k - size) % size := by
        rw [← Nat.add_mod_right (k - size), Nat.sub_add_cancel (by omega)]
      exact ⟨r', by rw [hd]; simpa using e1, by rw [hm]; exact e2⟩

/-- rows of the world, as cells one behind the other -/
theorem rows_cells {w : World} {l : Loc} {es : Nat} {rs : List (List AV)} (hw : RowsOk ρ w l es rs) {i len : Nat} {rows : List (List AV)} (ht : takeN len (dropN i rs) = some rows) :
    rows.length = len ∧ (∀ (k : Nat) (r : List AV), rows[k]? = some r → r.length = es) ∧ ∃ us, VL ρ rows.flatten us ∧ us.length = len * es ∧ Cells w l.blk (l.off + i * es) us := by
  obtain ⟨h1, h2⟩ := (takeN_eq _ _ _).1 ht
  rw [dropN_eq] at h1 h2
  have hget : ∀ (k : Nat) (r : List AV), rows[k]? = some r → rs[i + k]? = some r := fun k r hk => by
    rw [h2, List.getElem?_take] at hk
    split at hk
    · rwa [List.getElem?_drop] at hk
    · cases hk
  have hwd : ∀ (k : Nat) (r : List AV), rows[k]? = some r → r.length = es := fun k r hk => hw.width _ _ (hget k r hk)
  have hlen : rows.length = len := by rw [h2, List.length_take]; omega
  obtain ⟨f1, f2⟩ := flatten_get es rows hwd
  obtain ⟨us, h3, h4⟩ := VL.of_cells (ρ := ρ) rows.flatten (fun j => w.cell? ⟨l.blk, l.off + i * es + j, none⟩) fun j v hv => by
    obtain ⟨r, e1, e2⟩ := f2 j v hv
    obtain ⟨u, k1, k2⟩ := hw.cell _ _ _ _ (hget _ _ e1) e2
    refine ⟨u, k1, ?_⟩
    rw [← k2]
    have : j / es * es + j % es = j := by rw [Nat.mul_comm]; exact Nat.div_add_mod j es
    congr 2
    rw [Nat.add_mul]; omega
  exact ⟨hlen, hwd, us, h3, by rw [h3.length, f1, hlen], h4⟩

theorem Cells.heap {w w' : World} {b o : Nat} {us : List Value} (h : Cells w b o us) (hh : w'.heap = w.heap) : Cells w' b o us := fun j u hj => by
  rw [← h j u hj]; simp [World.cell?, hh]

theorem slRow_sound {size : Nat} {v : AV} {b i len : Nat} (h : slRow size v = some (b, i, len)) {p : Value} (hp : VR ρ v p) : ∃ l, ρ b = some l ∧ ((∃ c, p = .slice (some ⟨l.blk, l.off + i * size, none⟩) len c ∧
      ((∃ o, v = .sl b o len c ∧ o = i * size ∧ 0 < size) ∨ (v = .so b i len size ∧ l.es = size ∧ c = l.room - i ∧ i + len ≤ l.room ∧ 0 < size))) ∨
    (v = .so b i len size ∧ len = 0 ∧ l.room = i ∧ l.es = size ∧ 0 < size ∧ ∃ x, p = .slice (some ⟨l.blk, x, none⟩) 0 0)) := by
  unfold slRow at h
  split at h
  · split at h
    · cases h
    · split at h
      · rename_i hz
        cases h
        obtain ⟨l, hl, hv⟩ := hp
        refine ⟨l, hl, .inl ⟨_, ?_, .inl ⟨_, rfl, ?_, Nat.succ_pos _⟩⟩⟩
        · rw [hv, Nat.div_mul_cancel (Nat.dvd_of_mod_eq_zero hz)]
        · rw [Nat.div_mul_cancel (Nat.dvd_of_mod_eq_zero hz)]
      · cases h
  · split at h
    · rename_i he
      cases h
      have he' := Nat.eq_of_beq_eq_true he
      subst he'
      obtain ⟨l, hl, q1, q2, q3, hv⟩ := hp
      refine ⟨l, hl, ?_⟩
      rcases hv with hv | ⟨r1, r2, r3⟩
      · exact .inl ⟨_, hv, .inr ⟨rfl, q1, rfl, q3, q2⟩⟩
      · exact .inr ⟨rfl, r1, r2, q1, q2, r3⟩
    · cases h
  · cases h

theorem flatten_one {α β : Type} (f : α → β) (s : List α) : (s.map fun c => [f c]).flatten = s.map f := by
  induction s with
  | nil => rfl
  | cons c s ih => simp [ih]

theorem rowsOf_sound {h : H} {w : World} (hr : R ρ h w) {size : Nat} {v : AV} {rows : List (List AV)} (ho : rowsOf h size v = some rows) {p : Value} (hp : VR ρ v p) : Elems P ρ w size rows p := by
  unfold rowsOf at ho
  split at ho
  · cases ho
    have hp' : p = .slice none 0 0 := hp
    subst hp'
    exact ⟨by simp, rfl, [], rfl, by simp, fun w' n _ _ => by simp [Builtin.firstCells]⟩
  · rename_i s
    split at ho
    · cases ho
      rw [VR.str hp]
      refine ⟨fun i r hi => ?_, by simp [Builtin.lenOf, ByteArray.size], s.map fun c => .int .u8 c.toNat, ?_, by simp, fun w' n _ hn => ?_⟩
      · rw [List.getElem?_map] at hi
        cases hs : s[i]? with
        | none => rw [hs] at hi; cases hi
        | some c => rw [hs] at hi; cases hi; rfl
      · rw [flatten_one]
        refine VL.mk (by simp) fun i x u hx hu => ?_
        rw [List.getElem?_map] at hx hu
        cases hs : s[i]? with
        | none => rw [hs] at hx; cases hx
        | some c => rw [hs] at hx hu; cases hx; cases hu; rfl
      · simp only [Builtin.firstCells]
        simp only [Sem.run_pure, Result.ok.injEq, and_true]
        apply Array.ext'
        simp [ByteArray.data_extract, List.map_take]
    · cases ho
  · cases ho
    have hz : Top.has .emp p := hp
    obtain ⟨y, c, rfl⟩ := hz
    refine ⟨by simp, rfl, [], rfl, by simp, fun (w' : World) (n : Nat) _ hn => ?_⟩
    have hn0 : n = 0 := by simpa using hn
    rw [hn0]
    simp [Builtin.firstCells, loadCells, loadCellsFrom]
  · split at ho
    · rename_i b i len hs
      obtain ⟨l, hl, hcase⟩ := slRow_sound hs hp
      have hlenp : ∃ a c, p = .slice (some a) len c := by
        rcases hcase with ⟨c, hc, _⟩ | ⟨_, e1, _, _, _, x, hc⟩
        · exact ⟨_, _, hc⟩
        · exact ⟨_, _, by rw [hc, e1]⟩
      split at ho
      · cases ho
        obtain ⟨a, c, hpc⟩ := hlenp
        subst hpc
        refine ⟨by simp, rfl, [], rfl, by simp, fun (w' : World) (n : Nat) _ hn => ?_⟩
        have hn0 : n = 0 := by simpa using hn
        rw [hn0]
        simp [Builtin.firstCells, loadCells, loadCellsFrom]
      · rename_i k
        split at ho
        · rename_i es rs ro pv nx hg
          split at ho
          · rename_i he
            have he' := Nat.eq_of_beq_eq_true he
            subst he'
            obtain ⟨hw, _⟩ := hr.rows hl hg
            obtain ⟨g1, g2, us, g3, g4, g5⟩ := rows_cells hw ho
            rcases hcase with ⟨c, hc, _⟩ | ⟨_, e1, _⟩
            · subst hc
              refine ⟨g2, by simp [Builtin.lenOf, g1], us, g3, by rw [g4, g1], fun w' n hh hn => ?_⟩
              have hle : n * es ≤ us.length := by rw [g4, ← g1]; exact Nat.mul_le_mul_right _ hn
              exact run_firstCells_some (P := P) w' es n _ _ _ (us.take (n * es)) (by rw [List.length_take]; omega) (fun j u hj => by
                rw [add_plain]
                rw [List.getElem?_take] at hj
                split at hj
                · exact (g5.heap hh) j u hj
                · cases hj)
            · omega
          · cases ho
        · cases ho
    · cases ho

theorem rowsOf_shape {h : H} {size : Nat} {v : AV} {rows : List (List AV)} (ho : rowsOf h size v = some rows) {p : Value} (hp : VR ρ v p) : (∃ s, v = .str s) ∨ ∃ a n c, p = .slice a n c := by
  unfold rowsOf at ho
  split at ho
  · exact .inr ⟨_, _, _, hp⟩
  · exact .inl ⟨_, rfl⟩
  · have hz : Top.has .emp p := hp
    obtain ⟨y, c, rfl⟩ := hz
    exact .inr ⟨_, _, _, rfl⟩
  · split at ho
    · rename_i hs
      obtain ⟨l, hl, ⟨c, hc, _⟩ | ⟨_, _, _, _, _, x, hc⟩⟩ := slRow_sound hs hp
      · exact .inr ⟨_, _, _, hc⟩
      · exact .inr ⟨_, _, _, hc⟩
    · cases ho

theorem bytesOf_cons (r : List AV) (rs : List (List AV)) : bytesOf (r :: rs) = match r, bytesOf rs with
    | [.int .u8 n], some z => some (UInt8.ofNat n.toNat :: z)
    | _, _ => none := rfl
theorem bytesOf_sound : ∀ {rows : List (List AV)} {s : List UInt8} {us : List Value}, bytesOf rows = some s → VL ρ rows.flatten us → ∃ ns : List Int, us = ns.map (Value.int .u8) ∧ s = ns.map fun n => UInt8.ofNat n.toNat
  | [], s, us, h, hu => by
    cases h
    simp only [List.flatten_nil, VL] at hu
    subst hu
    exact ⟨[], rfl, rfl⟩
  | r :: rows, s, us, h, hu => by
    rw [bytesOf_cons] at h
    split at h
    · rename_i n z hz
      cases h
      simp only [List.flatten_cons, List.cons_append, List.nil_append] at hu
      obtain ⟨u, l', h1, h2, rfl⟩ := hu
      obtain ⟨ns, e1, e2⟩ := bytesOf_sound hz h2
      simp only [VS] at h1
      subst h1 e1 e2
      exact ⟨n :: ns, rfl, rfl⟩
    · cases h
theorem foldl_push (ns : List Int) : ∀ s : ByteArray, ns.foldl (fun r n => r.push (UInt8.ofNat n.toNat)) s = ⟨(s.data.toList ++ ns.map fun n => UInt8.ofNat n.toNat).toArray⟩ := by
  induction ns with
  | nil => intro s; simp
  | cons n ns ih =>
    intro s
    rw [List.foldl_cons, ih]
    congr 1
    apply Array.ext'
    simp [ByteArray.push]

theorem read_sound (hE : EnvOk P E) {h : H} {w : World} (hr : R ρ h w) {o : Oper} {v : AV} (hv : readA E fr h o.op = some v) (hk : Knows ρ fr ev o.op.operands) :
    ∃ u, VR ρ v u ∧ (execOp ev o).run P w = .ok (.value u) w := by
  obtain ⟨dst, op, type, pos, after, guard⟩ := o
  cases op <;> simp only [readA] at hv <;> try (cases hv; done)
  case load t x =>
    split at hv
    · rename_i ti b o hti hx
      split at hv
      · rename_i cs hcs
        obtain ⟨i, z, d, hT⟩ := hE.tt _ _ hti
        obtain ⟨l, hl, hp⟩ := hk x (by simp [Op.operands]) _ hx
        obtain ⟨h1, us, h2, h3⟩ := load_sound hr hcs hl
        obtain ⟨u, h4, h5⟩ := run_loadVar hT h1 h2 h3 hv
        exact ⟨u, h4, by simp [execOp, Instr.loadAt, Instr.sureAddr, hp, h5]⟩
      · cases hv
    · cases hv
  case convert src dst x =>
    split at hv
    · rename_i si ti a hsi hti hx
      obtain ⟨i, z, d, hT⟩ := hE.tt _ _ hti
      obtain ⟨i', z', d', hS⟩ := hE.tt _ _ hsi
      have hkk := hT.k
      have hd := hT.und
      have hp := hk x (by simp [Op.operands]) _ hx
      have hs := hS.run_und w
      split at hv
      · rename_i k k' n hke
        rw [hke] at hkk
        have := tkOf_int hkk; subst this
        cases hv
        have hp' := VR.int hp
        refine ⟨_, rfl, ?_⟩
        simp [execOp, convert, run_underlying hd, hs, hp', Conv.intToInt]
      · rename_i s hke
        rw [hke] at hkk
        have := tkOf_str hkk; subst this
        cases hv
        have hp' := VR.str hp
        refine ⟨_, rfl, ?_⟩
        simp [execOp, convert, run_underlying hd, hs, hp']
      · rename_i hke hns
        rw [hke] at hkk
        have := tkOf_str hkk; subst this
        split at hv
        · rename_i e hse
          have hsk := hS.k
          rw [hse] at hsk
          have := tkOf_slice hsk; subst this
          split at hv
          · rename_i te hte
            obtain ⟨ie, ze, de, hTe⟩ := hE.tt _ _ hte
            split at hv
            · rename_i hek
              have hkk' := hTe.k
              rw [hek] at hkk'
              have := tkOf_int hkk'; subst this
              split at hv
              · rename_i rs hrs
                split at hv
                · rename_i s hbs
                  cases hv
                  refine ⟨_, rfl, ?_⟩
                  have hel := rowsOf_sound (P := P) hr hrs hp
                  obtain ⟨us, e1, e0, e2⟩ := hel.cells
                  obtain ⟨ns, e3, e4⟩ := bytesOf_sound hbs e1
                  have e5 := e2 w rs.length rfl (Nat.le_refl _)
                  rw [← e0, List.take_length] at e5
                  obtain ⟨b, n, c, hps⟩ : ∃ b n c, ev x = .slice b n c := by
                    rcases rowsOf_shape hrs hp with ⟨s', hs'⟩ | hh
                    · exact absurd hs' (hns s')
                    · exact hh
                  rw [hps] at e5
                  have hl := hel.len
                  rw [hps] at hl
                  simp only [Builtin.lenOf, Sem.run_pure, Result.ok.injEq, and_true] at hl
                  subst hl
                  have hgo : (convert src dst (ev x)).run P w = (Conv.bytesToString (ev x)).run P w := by
                    rw [hps]; exact run_convert_bytes_string w src dst e b _ c hS.und hTe.und hd
                  have hres : (Conv.bytesToString (ev x)).run P w = .ok (.string ⟨s.toArray⟩) w := by
                    rw [hps]
                    cases b with
                    | none =>
                      simp only [Builtin.firstCells, Sem.run_pure, Result.ok.injEq, and_true] at e5
                      have : us = [] := by simpa using congrArg Array.toList e5.symm
                      subst this
                      have : ns = [] := by simpa using e3.symm
                      subst this
                      subst e4
                      rfl
                    | some a =>
                      simp only [Builtin.firstCells, Nat.mul_one] at e5
                      rw [e3] at e5
                      rw [run_bytesToString w a _ c ns e5, foldl_push, e4]
                      rfl
                  simp only [execOp, Sem.run_bind, hgo, hres, Result.andThen_ok, Sem.run_pure]
                · cases hv
              · cases hv
            · cases hv
          · cases hv
        · cases hv
      · cases hv
    · cases hv
  case call c =>
    obtain ⟨callee, args, argTypes⟩ := c
    cases callee with
    | value f => cases hv
    | invoke r m => cases hv
    | builtin b =>
      cases b <;> simp only at hv <;> try (cases hv; done)
      split at hv
      · rename_i x hvs
        have hx := opnds_sound (ρ := ρ) (ev := ev) hvs fun x hx v hv => hk x (by simp [Op.operands, Call.operands]; simpa using hx) v hv
        obtain ⟨u, l', h1, h2, h3⟩ := hx
        simp only [VX] at h2; subst h2
        have h3' : args.map ev = #[u] := by apply Array.ext'; simpa using h3
        split at hv
        · rename_i t ts hts
          have hat : argTypes[0]? = some t := by rw [← Array.getElem?_toList, hts]; rfl
          split at hv
          · rename_i ti hti
            obtain ⟨i, z, d, hT⟩ := hE.tt _ _ hti
            have hkk := hT.k
            have hd := hT.und
            split at hv
            · rename_i e hke
              rw [hke] at hkk; have := tkOf_slice hkk; subst this
              cases hv
              have : u = .slice none 0 0 := h1
              subst this
              exact ⟨_, rfl, by simp [execOp, resolve, invoke, builtin, h3', Builtin.len_, hat, run_underlying hd, goInt]⟩
            · rename_i e b o n c hke
              rw [hke] at hkk; have := tkOf_slice hkk; subst this
              cases hv
              obtain ⟨l, hl, rfl⟩ := h1
              exact ⟨_, rfl, by simp [execOp, resolve, invoke, builtin, h3', Builtin.len_, hat, run_underlying hd, goInt]⟩
            · rename_i e b o n c hke
              rw [hke] at hkk; have := tkOf_slice hkk; subst this
              cases hv
              obtain ⟨l, hl, q1, q2, q3, rfl | ⟨rfl, _, x, rfl⟩⟩ := h1
              · exact ⟨_, rfl, by simp [execOp, resolve, invoke, builtin, h3', Builtin.len_, hat, run_underlying hd, goInt]⟩
              · exact ⟨_, rfl, by simp [execOp, resolve, invoke, builtin, h3', Builtin.len_, hat, run_underlying hd, goInt]⟩
            · rename_i s hke
              rw [hke] at hkk; have := tkOf_str hkk; subst this
              cases hv
              have hu := VR.str h1
              have hsz : (⟨s.toArray⟩ : ByteArray).size = s.length := by simp [ByteArray.size]
              exact ⟨_, rfl, by simp [execOp, resolve, invoke, builtin, h3', hu, Builtin.len_, hat, run_underlying hd, goInt, lenN_eq, hsz]⟩
            · rename_i e hke
              rw [hke] at hkk; have := tkOf_slice hkk; subst this
              cases hv
              have hz : Top.has .emp u := h1
              obtain ⟨y, c, rfl⟩ := hz
              exact ⟨_, rfl, by simp [execOp, resolve, invoke, builtin, h3', Builtin.len_, hat, run_underlying hd, goInt]⟩
            · rename_i e a b hke
              rw [hke] at hkk; have := tkOf_slice hkk; subst this
              cases hv
              obtain ⟨rfl, rfl⟩ | ⟨y, n, c, rfl, q1, q2⟩ := h1
              · exact ⟨_, ⟨0, rfl, by omega, by omega⟩, by simp [execOp, resolve, invoke, builtin, h3', Builtin.len_, hat, run_underlying hd, goInt]⟩
              · exact ⟨_, ⟨n, rfl, by omega, by omega⟩, by simp [execOp, resolve, invoke, builtin, h3', Builtin.len_, hat, run_underlying hd, goInt]⟩
            · rename_i a b hke
              rw [hke] at hkk; have := tkOf_str hkk; subst this
              cases hv
              obtain ⟨s, rfl, q1, q2⟩ := h1
              exact ⟨_, ⟨s.size, rfl, by omega, by omega⟩, by simp [execOp, resolve, invoke, builtin, h3', Builtin.len_, hat, run_underlying hd, goInt]⟩
            · rename_i k e hke
              rw [hke] at hkk; have := tkOf_map hkk; subst this
              cases hv
              have : u = .map none := h1
              subst this
              exact ⟨_, rfl, by simp [execOp, resolve, invoke, builtin, h3', Builtin.len_, hat, run_underlying hd, goInt]⟩
            · cases hv
          · cases hv
        · cases hv
      · cases hv
end
end Go.Abs
