/-
  Every pure operation does in the model what it does here (3).
-/
import Derived.Test.YtddehkbgfkeahaaAbsP
import Derived.Test.YtddehkbgfkeahaaAbsC
namespace Go.Abs
open Go

section
variable {P : Program} {E : Env} {ρ : Pl} {fr : T AV} {ev : Operand → Value}

theorem mkV_sound {ti : TI} {cs : List AV} {v : AV} (h : mkV ti cs = some v) {us : List Value} (hu : VL ρ cs us) :
    (ti.agg = true ∧ v = .agg cs) ∨ (ti.agg = false ∧ ∃ a u, cs = [a] ∧ v = a ∧ us = [u] ∧ VS ρ a u) := by
  unfold mkV at h
  split at h
  · cases h; left; exact ⟨by assumption, rfl⟩
  · split at h
    · cases h
      right
      obtain ⟨u, l, h1, h2, h3⟩ := hu
      simp only [VL] at h2
      subst h2
      exact ⟨by assumption, _, _, rfl, rfl, h3, h1⟩
    · cases h

/-- a part of a value's cells -/
theorem part_sound {t : TypeId} {ti : TI} {i : TypeInfo} {z : Value} {d : TypeDesc} (hT : TIok P t ti i z d) {cs : List AV} {us : List Value} (hu : VL ρ cs us) {o : Nat} {c : List AV} (hc : takeN ti.size (dropN o cs) = some c) {v : AV} (hv : mkV ti c = some v) :
    ∃ u, VR ρ v u ∧ ∀ w, (part t us.toArray o).run P w = .ok u w := by
  obtain ⟨h1, h2⟩ := (takeN_eq _ _ _).1 hc
  rw [dropN_eq] at h1 h2
  have hw := (hu.drop o).take ti.size
  rw [← h2] at hw
  rcases mkV_sound hv hw with ⟨ha, rfl⟩ | ⟨ha, a, u, e1, rfl, e3, e4⟩
  · have hag : aggOf d = true := by rw [← hT.agg]; exact ha
    refine ⟨.agg ((us.drop o).take ti.size).toArray, ⟨_, hw, rfl⟩, fun w => ?_⟩
    rw [run_part_agg w hT.und hag _ _ i hT.info]
    congr 2
    apply Array.ext'
    simp [hT.size, List.take_drop]
  · have hag : aggOf d = false := by rw [← hT.agg]; exact ha
    refine ⟨u, VR.of_V1 (V1.of_VS e4), fun w => run_part w hT.und hag _ _ _ ?_⟩
    have := congrArg (·[0]?) e3
    simp only [List.getElem?_cons_zero, List.getElem?_take, List.getElem?_drop, Nat.add_zero] at this
    split at this
    · simpa using this
    · cases this

theorem minmax_sound {f : AV → AV → Option AV} {g : Value → Value → Sem Value} (hfg : ∀ (a b c : AV) (p q : Value), f a b = some c → VR ρ a p → VR ρ b q → ∃ r, VR ρ c r ∧ ∀ w, (g p q).run P w = .ok r w) :
    ∀ {r : List AV} {us : List Value} {x y : AV} {p : Value}, foldO f x r = some y → VR ρ x p → VX ρ r us → ∃ u, VR ρ y u ∧ ∀ w, (us.foldlM g p).run P w = .ok u w
  | [], us, x, y, p, h, hp, hu => by
    simp only [foldO, Option.some.injEq] at h; subst h
    simp only [VX] at hu; subst hu
    exact ⟨p, hp, fun w => by simp⟩
  | a :: r, us, x, y, p, h, hp, hu => by
    obtain ⟨v, l', h1, h2, rfl⟩ := hu
    simp only [foldO] at h
    split at h
    · rename_i z hz
      obtain ⟨q, k1, k2⟩ := hfg _ _ _ _ _ hz hp h1
      obtain ⟨u, k3, k4⟩ := minmax_sound hfg h k1 h2
      exact ⟨u, k3, fun w => by simp [List.foldlM_cons, k2 w, k4 w]⟩
    · cases h

theorem min2_sound (a b c : AV) (p q : Value) (h : min2 a b = some c) (hp : VR ρ a p) (hq : VR ρ b q) : ∃ r, VR ρ c r ∧ ∀ w, (Builtin.min2 p q).run P w = .ok r w := by
  unfold min2 at h
  split at h
  · cases h; rw [VR.int hp, VR.int hq]; exact ⟨_, rfl, fun w => by simp [Builtin.min2]⟩
  · split at h
    · rename_i h1 h2
      cases h
      obtain ⟨m, rfl, m1, m2⟩ := ivl_sound h1 hp
      obtain ⟨n, rfl, n1, n2⟩ := ivl_sound h2 hq
      refine ⟨_, ⟨if n < m then n else m, rfl, ?_⟩, fun w => by simp [Builtin.min2]⟩
      repeat' split
      all_goals omega
    · cases h
theorem max2_sound (a b c : AV) (p q : Value) (h : max2 a b = some c) (hp : VR ρ a p) (hq : VR ρ b q) : ∃ r, VR ρ c r ∧ ∀ w, (Builtin.max2 p q).run P w = .ok r w := by
  unfold max2 at h
  split at h
  · cases h; rw [VR.int hp, VR.int hq]; exact ⟨_, rfl, fun w => by simp [Builtin.max2]⟩
  · split at h
    · rename_i h1 h2
      cases h
      obtain ⟨m, rfl, m1, m2⟩ := ivl_sound h1 hp
      obtain ⟨n, rfl, n1, n2⟩ := ivl_sound h2 hq
      refine ⟨_, ⟨if m < n then n else m, rfl, ?_⟩, fun w => by simp [Builtin.max2]⟩
      repeat' split
      all_goals omega
    · cases h

theorem VX.toVL : ∀ {a : List AV} {l : List Value}, VX ρ a l → a.all AV.one = true → VL ρ a l
  | [], _, h, _ => h
  | a :: r, l, h, k => by
    obtain ⟨v, l', h1, h2, rfl⟩ := h
    simp only [List.all_cons, Bool.and_eq_true] at k
    exact ⟨v, l', by cases a <;> first | exact h1 | (exact absurd k.1 (by simp [AV.one])), VX.toVL h2 k.2, rfl⟩

theorem wrap_neg (k : IntKind) (n : Int) : k.wrap (0 - n) = k.wrap (0 - n) := rfl

theorem pure_sound (hE : EnvOk P E) {o : Oper} {v : AV} (h : pureA E fr o.op = some v) (hk : Knows ρ fr ev o.op.operands) :
    ∃ u, VR ρ v u ∧ ∀ w, (execOp ev o).run P w = .ok (.value u) w := by
  obtain ⟨dst, op, type, pos, after, guard⟩ := o
  cases op <;> simp only [pureA] at h <;> try (cases h; done)
  case move x => exact ⟨_, hk x (by simp [Op.operands]) v h, fun w => by simp [execOp]⟩
  case assign x => exact ⟨_, hk x (by simp [Op.operands]) v h, fun w => by simp [execOp]⟩
  case pick c a b =>
    split at h
    · rename_i hc
      have := VR.bool (hk c (by simp [Op.operands]) _ hc)
      exact ⟨_, hk a (by simp [Op.operands]) v h, fun w => by simp [execOp, this, asBool]⟩
    · rename_i hc
      have := VR.bool (hk c (by simp [Op.operands]) _ hc)
      exact ⟨_, hk b (by simp [Op.operands]) v h, fun w => by simp [execOp, this, asBool]⟩
    · cases h
  case build t ps =>
    split at h
    · rename_i ti vs hti hvs
      have hps : PX ρ vs (ps.map fun (i, x) => (i, ev x)).toList := by
        rw [Array.toList_map]
        exact partsOf_sound hvs fun i x hx v hv => hk x (by simp only [Op.operands, List.mem_toArray, List.mem_map]; exact ⟨(i, x), hx, rfl⟩) v hv
      split at h
      · rename_i fs hkk
        split at h
        · rename_i cs hcs
          cases h
          obtain ⟨C, h1, h2⟩ := build_struct hE hti hkk hps hcs
          exact ⟨.agg C, ⟨C.toList, h1, by simp⟩, fun w => by simp [execOp, h2 w]⟩
        · cases h
      · rename_i n e hkk
        split at h
        · rename_i te hte
          split at h
          · rename_i cs hcs
            cases h
            obtain ⟨C, h1, h2⟩ := build_arr hE hti hkk hte hps hcs
            exact ⟨.agg C, ⟨C.toList, h1, by simp⟩, fun w => by simp [execOp, h2 w]⟩
          · cases h
        · cases h
      · cases h
    · cases h
  case nilCheck x =>
    split at h
    · rename_i b o hx
      cases h
      have hv := hk x (by simp [Op.operands]) _ hx
      obtain ⟨a, ha⟩ := VS_ptr hv
      exact ⟨_, hv, fun w => by simp [execOp, ha]⟩
    · rename_i f c hx
      cases h
      have hv := hk x (by simp [Op.operands]) _ hx
      obtain ⟨a, ha⟩ := VS_fn hv
      exact ⟨_, hv, fun w => by simp [execOp, ha]⟩
    · cases h
  case binOp bop t x y t2 =>
    split at h
    · rename_i a b ha hb
      obtain ⟨u, h1, h2⟩ := binop_sound hE h (hk x (by simp [Op.operands]) _ ha) (hk y (by simp [Op.operands]) _ hb) x y
      refine ⟨u, h1, fun w => ?_⟩
      have := h2 w
      simp only [execOp, Sem.run_bind] at this ⊢
      rw [this]; rfl
    · cases h
  case unOp uop t x =>
    split at h
    · rename_i b hx
      cases h
      exact ⟨_, rfl, fun w => by simp [execOp, VR.bool (hk x (by simp [Op.operands]) _ hx), Op.unary]⟩
    · rename_i k n hx
      cases h
      exact ⟨_, rfl, fun w => by simp [execOp, VR.int (hk x (by simp [Op.operands]) _ hx), Op.unary, Op.intArith]⟩
    · cases h
  case makeFunc fn first cap =>
    cases fn <;> simp only at h <;> try (cases h; done)
    rename_i f
    split at h
    · rename_i vs hvs
      split at h
      · rename_i hf hall
        cases h
        have hx := opnds_sound (ρ := ρ) (ev := ev) hvs fun x hx v hv => hk x (by simp [Op.operands]; right; simpa using hx) v hv
        have hf' : first = #[] := by simpa using hf
        exact ⟨.func (.func f) #[] (cap.toList.map ev).toArray, ⟨_, hx.toVL hall, rfl⟩, fun w => by simp [execOp, Instr.makeFunc, hf']; apply Array.ext'; simp⟩
      · cases h
    · cases h
  case slice t x lo hi mx =>
    split at h
    · rename_i a l0 h0 m0 ha hlo hhi hmx
      obtain ⟨u, h1, h2⟩ := sliceOp_sound hE h (hk x (by simp [Op.operands]) _ ha)
        (optOp_sound (ev := ev) hlo fun y hy => hk y (by simp [Op.operands, hy]))
        (optOp_sound (ev := ev) hhi fun y hy => hk y (by simp [Op.operands, hy]))
        (optOp_sound (ev := ev) hmx fun y hy => hk y (by simp [Op.operands, hy]))
      exact ⟨u, h1, fun w => by simp [execOp, h2 w]⟩
    · cases h
  case fieldAddr t x f =>
    split at h
    · rename_i ti b o hti hx
      obtain ⟨i, z, d, hT⟩ := hE.tt _ _ hti
      have hkk := hT.k
      have hd := hT.und
      split at h
      · rename_i fs hfs
        rw [hfs] at hkk
        obtain ⟨fields, rfl, rfl⟩ := tkOf_struct hkk
        split at h
        · rename_i ft off hn
          split at h
          · rename_i tf htf
            split at h
            · cases h
            · rename_i s hs
              cases h
              obtain ⟨i', z', d', hT'⟩ := hE.tt _ _ htf
              obtain ⟨l, hl, hv⟩ := hk x (by simp [Op.operands]) _ hx
              rw [nth_eq, List.getElem?_map] at hn
              cases hf : fields.toList[f]? with
              | none => rw [hf] at hn; cases hn
              | some fl =>
                rw [hf] at hn
                cases hn
                refine ⟨.pointer (some ⟨l.blk, l.off + (o + fl.offset), none⟩), ⟨l, hl, rfl⟩, fun w => ?_⟩
                have hf' : fields[f]? = some fl := by simpa using hf
                simp [execOp, Instr.fieldAt, run_underlying hd, hf', hv, Instr.sureAddr, fieldPlace, hT'.run_size w, hs, add_plain, Nat.add_assoc]
          · cases h
        · cases h
      · cases h
    · cases h
  case field t x f =>
    split at h
    · rename_i ti cs hti hx
      obtain ⟨i, z, d, hT⟩ := hE.tt _ _ hti
      have hkk := hT.k
      have hd := hT.und
      split at h
      · rename_i fs hfs
        rw [hfs] at hkk
        obtain ⟨fields, rfl, rfl⟩ := tkOf_struct hkk
        split at h
        · rename_i ft off hn
          split at h
          · rename_i tf htf
            split at h
            · rename_i c hc
              obtain ⟨i', z', d', hT'⟩ := hE.tt _ _ htf
              obtain ⟨us, hus, hv⟩ := hk x (by simp [Op.operands]) _ hx
              rw [nth_eq, List.getElem?_map] at hn
              cases hf : fields.toList[f]? with
              | none => rw [hf] at hn; cases hn
              | some fl =>
                rw [hf] at hn
                cases hn
                obtain ⟨u, h1, h2⟩ := part_sound hT' hus hc h
                have hf' : fields[f]? = some fl := by simpa using hf
                exact ⟨u, h1, fun w => by simp [execOp, Instr.field, run_underlying hd, hf', hv, asAgg, h2 w]⟩
            · cases h
          · cases h
        · cases h
      · cases h
    · cases h
  case indexAddr t x ix =>
    split at h
    · rename_i ti a k n hti hx hi
      obtain ⟨i, z, d, hT⟩ := hE.tt _ _ hti
      have hkk := hT.k
      have hd := hT.und
      have hiv := VR.int (hk ix (by simp [Op.operands]) _ hi)
      have hxv := hk x (by simp [Op.operands]) _ hx
      split at h
      · rename_i j hj
        have := natOf_eq hj; subst this
        split at h
        · rename_i e b o len c hke
          rw [hke] at hkk
          have := tkOf_slice hkk; subst this
          split at h
          · rename_i te hlt hte
            cases h
            obtain ⟨i', z', d', hT'⟩ := hE.tt _ _ hte
            obtain ⟨l, hl, hv⟩ := hxv
            have hlt' : j < len := by simpa [Nat.blt_eq] using hlt
            refine ⟨.pointer (some ⟨l.blk, l.off + (o + j * te.size), none⟩), ⟨l, hl, rfl⟩, fun w => ?_⟩
            simp [execOp, Instr.indexAt, hiv, asIntOf, run_underlying hd, hv, hlt', hT'.run_size w, add_plain, Nat.add_assoc]
          · cases h
        · rename_i e b r len es hke
          rw [hke] at hkk
          have := tkOf_slice hkk; subst this
          split at h
          · rename_i te hlt hte
            split at h
            · rename_i hes
              cases h
              obtain ⟨i', z', d', hT'⟩ := hE.tt _ _ hte
              obtain ⟨l, hl, q1, q2, q3, hv⟩ := hxv
              have hlt' : j < len := by simpa [Nat.blt_eq] using hlt
              have hes' : te.size = es := by simpa using hes
              rcases hv with hv | ⟨e1, _, _, _⟩
              · refine ⟨.pointer (some ⟨l.blk, l.off + (r + j) * es, none⟩), ⟨l, hl, rfl⟩, fun w => ?_⟩
                simp [execOp, Instr.indexAt, hiv, asIntOf, run_underlying hd, hv, hlt', hT'.run_size w, add_plain, hes', Nat.add_mul, Nat.add_assoc]
              · omega
            · cases h
          · cases h
        · rename_i n e b o hke
          rw [hke] at hkk
          have := tkOf_arr hkk; subst this
          split at h
          · rename_i te hlt hte
            cases h
            obtain ⟨i', z', d', hT'⟩ := hE.tt _ _ hte
            obtain ⟨l, hl, hv⟩ := hxv
            have hlt' : j < n := by simpa [Nat.blt_eq] using hlt
            refine ⟨.pointer (some ⟨l.blk, l.off + (o + j * te.size), none⟩), ⟨l, hl, rfl⟩, fun w => ?_⟩
            simp [execOp, Instr.indexAt, hiv, asIntOf, run_underlying hd, hv, hlt', hT'.run_size w, add_plain, Nat.add_assoc, Instr.sureAddr]
          · cases h
        · cases h
      · cases h
    · cases h
  case index t x ix =>
    split at h
    · rename_i ti a k n hti hx hi
      obtain ⟨i, z, d, hT⟩ := hE.tt _ _ hti
      have hkk := hT.k
      have hd := hT.und
      have hiv := VR.int (hk ix (by simp [Op.operands]) _ hi)
      have hxv := hk x (by simp [Op.operands]) _ hx
      split at h
      · rename_i j hj
        have := natOf_eq hj; subst this
        split at h
        · rename_i s hke
          rw [hke] at hkk
          have := tkOf_str hkk; subst this
          split at h
          · rename_i c hc
            cases h
            rw [nth_eq] at hc
            refine ⟨_, rfl, fun w => ?_⟩
            have hget : (⟨s.toArray⟩ : ByteArray)[j]? = some c := by
              obtain ⟨hj', hcc⟩ := List.getElem?_eq_some_iff.1 hc
              have : j < (⟨s.toArray⟩ : ByteArray).size := by simpa [ByteArray.size] using hj'
              rw [getElem?_pos _ j this]
              exact congrArg some hcc
            simp [execOp, Instr.index, hiv, asIntOf, run_underlying hd, VR.str hxv, hget]
          · cases h
        · rename_i n e cs hke
          rw [hke] at hkk
          have := tkOf_arr hkk; subst this
          split at h
          · rename_i te hlt hte
            split at h
            · rename_i c hc
              obtain ⟨i', z', d', hT'⟩ := hE.tt _ _ hte
              obtain ⟨us, hus, hv⟩ := hxv
              have hlt' : j < n := by simpa [Nat.blt_eq] using hlt
              obtain ⟨u, h1, h2⟩ := part_sound hT' hus hc h
              exact ⟨u, h1, fun w => by simp [execOp, Instr.index, hiv, asIntOf, run_underlying hd, hv, hlt', hT'.run_size w, h2 w]⟩
            · cases h
          · cases h
        · cases h
      · cases h
    · cases h
  case extract x i =>
    split at h
    · rename_i vs hx
      obtain ⟨us, hus, hv⟩ := hk x (by simp [Op.operands]) _ hx
      rw [nth_eq] at h
      obtain ⟨u, h1, h2⟩ := hus.get h
      have h1' : us.toArray[i]? = some u := by simpa using h1
      exact ⟨u, VR.of_V1 h2, fun w => by simp [execOp, Instr.extract, hv, h1']⟩
    · cases h
  case call c =>
    obtain ⟨callee, args, argTypes⟩ := c
    cases callee with
    | value f => cases h
    | invoke r m => cases h
    | builtin b =>
      simp only at h
      split at h
      · cases h
      · rename_i vs hvs
        have hx := opnds_sound (ρ := ρ) (ev := ev) hvs fun x hx v hv => hk x (by simp [Op.operands, Call.operands]; simpa using hx) v hv
        split at h
        · rename_i x r
          obtain ⟨u, l', h1, h2, h3⟩ := hx
          obtain ⟨y, h4, h5⟩ := minmax_sound (P := P) min2_sound h h1 h2
          have h3' : args.map ev = (u :: l').toArray := by apply Array.ext'; simpa using h3
          exact ⟨y, h4, fun w => by simp [execOp, resolve, invoke, builtin, h3', Builtin.min_, h5 w]⟩
        · rename_i x r
          obtain ⟨u, l', h1, h2, h3⟩ := hx
          obtain ⟨y, h4, h5⟩ := minmax_sound (P := P) max2_sound h h1 h2
          have h3' : args.map ev = (u :: l').toArray := by apply Array.ext'; simpa using h3
          exact ⟨y, h4, fun w => by simp [execOp, resolve, invoke, builtin, h3', Builtin.max_, h5 w]⟩
        · cases h
end
end Go.Abs

/-
  Reads, and allocations.
-/
namespace Go.Abs
open Go

section
variable {P : Program} {E : Env} {ρ : Pl} {fr : T AV} {ev : Operand → Value}

/-- cells of the world, from a place on -/
def Cells (w : World) (b o : Nat) (us : List Value) : Prop := ∀ (j : Nat) (u : Value), us[j]? = some u → w.cell? ⟨b, o + j, none⟩ = some u

theorem VL.of_cells : ∀ (cs : List AV) (f : Nat → Option Value), (∀ (j : Nat) (v : AV), cs[j]? = some v → ∃ u, VS ρ v u ∧ f j = some u) → ∃ us, VL ρ cs us ∧ ∀ (j : Nat) (u : Value), us[j]? = some u → f j = some u
  | [], f, _ => ⟨[], rfl, by simp⟩
  | c :: cs, f, h => by
    obtain ⟨u, h1, h2⟩ := h 0 c rfl
    obtain ⟨us, h3, h4⟩ := VL.of_cells cs (fun j => f (j + 1)) (fun j v hv => h (j + 1) v (by simpa using hv))
    refine ⟨u :: us, ⟨u, us, h1, h3, rfl⟩, fun j x hx => ?_⟩
    cases j with
    | zero => simp at hx; subst hx; exact h2
    | succ j => exact h4 j x (by simpa using hx)

theorem R.rows {h : H} {w : World} (hr : R ρ h w) {b : Nat} {l : Loc} (hb : ρ b = some l) {es : Nat} {rs : List (List AV)} {ro : Bool} {p n : Option Nat} (hx : h.get b = some (.rows es rs ro p n)) :
    RowsOk ρ w l es rs ∧ (ro = false → RowsMay w l es rs.length) := hr.blk _ _ _ hb hx

theorem load_sound {h : H} {w : World} (hr : R ρ h w) {b o n : Nat} {cs : List AV} (hl : h.load b o n = some cs) {l : Loc} (hb : ρ b = some l) :
    cs.length = n ∧ ∃ us, VL ρ cs us ∧ Cells w l.blk (l.off + o) us := by
  unfold H.load at hl
  split at hl
  · rename_i es rs ro p nx hg
    obtain ⟨hw, _⟩ := hr.rows hb hg
    split at hl
    · rename_i r hrr
      rw [nth_eq] at hrr
      have hlen := hw.width _ _ hrr
      have hoff : o / es * es + o % es = o := by rw [Nat.mul_comm]; exact Nat.div_add_mod o es
      have key : cs.length = n ∧ ∀ (j : Nat) (v : AV), cs[j]? = some v → r[o % es + j]? = some v := by
        split at hl
        · rename_i h0 hn
          cases hl
          have hn' : n = es := by simpa using hn
          refine ⟨by omega, fun j v hv => ?_⟩
          rw [h0, Nat.zero_add]; exact hv
        · obtain ⟨h1, h2⟩ := (takeN_eq _ _ _).1 hl
          rw [dropN_eq] at h1 h2
          subst h2
          refine ⟨by simp only [List.length_take]; omega, fun j v hv => ?_⟩
          rw [List.getElem?_take] at hv
          split at hv
          · rwa [List.getElem?_drop] at hv
          · cases hv
      refine ⟨key.1, ?_⟩
      obtain ⟨us, h1, h2⟩ := VL.of_cells (ρ := ρ) cs (fun j => w.cell? ⟨l.blk, l.off + o + j, none⟩) fun j v hv => by
        obtain ⟨u, k1, k2⟩ := hw.cell _ _ _ _ hrr (key.2 j v hv)
        refine ⟨u, k1, ?_⟩
        rw [← k2]
        congr 2; omega
      exact ⟨us, h1, h2⟩
    · cases hl
  · cases hl

theorem run_loadVar {t : TypeId} {ti : TI} {i : TypeInfo} {z : Value} {d : TypeDesc} (hT : TIok P t ti i z d) {w : World} {b o : Nat} {cs : List AV} {us : List Value} (hl : cs.length = ti.size) (hu : VL ρ cs us) (hc : Cells w b o us) {v : AV} (hv : mkV ti cs = some v) :
    ∃ u, VR ρ v u ∧ (loadVar t ⟨b, o, none⟩).run P w = .ok u w := by
  rcases mkV_sound hv hu with ⟨ha, rfl⟩ | ⟨ha, a, u, rfl, rfl, rfl, e4⟩
  · refine ⟨.agg us.toArray, ⟨us, hu, rfl⟩, ?_⟩
    have := run_loadCells_list (P := P) w ⟨b, o, none⟩ us (fun j u hj => by rw [add_plain]; exact hc j u hj)
    rw [hu.length, hl] at this
    simp [loadVar, hT.run_agg w, ha, hT.run_size w, this]
  · refine ⟨u, VR.of_V1 (V1.of_VS e4), ?_⟩
    have := hc 0 u rfl
    rw [Nat.add_zero] at this
    simp [loadVar, hT.run_agg w, ha, this]

/-- a slice's elements -/
structure Elems (P : Program) (ρ : Pl) (w : World) (size : Nat) (rows : List (List AV)) (p : Value) : Prop where
  wide : ∀ (i : Nat) (r : List AV), rows[i]? = some r → r.length = size
  len : (Builtin.lenOf p).run P w = .ok rows.length w
  cells : ∃ us, VL ρ rows.flatten us ∧ us.length = rows.length * size ∧ ∀ w' n, w'.heap = w.heap → n ≤ rows.length → (Builtin.firstCells size n p).run P w' = .ok (us.take (n * size)).toArray w'

theorem flatten_get {α : Type} (size : Nat) : ∀ (rows : List (List α)), (∀ (i : Nat) (r : List α), rows[i]? = some r → r.length = size) → rows.flatten.length = rows.length * size ∧
    ∀ (k : Nat) (x : α), rows.flatten[k]? = some x → ∃ r, rows[k / size]? = some r ∧ r[k % size]? = some x
  | [], _ => ⟨by simp, by simp⟩
  | r :: rows, h => by
    have hr := h 0 r rfl
    obtain ⟨h1, h2⟩ := flatten_get size rows (fun i x hx => h (i + 1) x (by simpa using hx))
    refine ⟨by simp [hr, h1, Nat.add_mul, Nat.add_comm], fun k x hx => ?_⟩
    rw [List.flatten_cons] at hx
    by_cases hk : k < size
    · rw [List.getElem?_append_left (by omega)] at hx
      exact ⟨r, by rw [Nat.div_eq_of_lt hk]; rfl, by rw [Nat.mod_eq_of_lt hk]; exact hx⟩
    · rw [List.getElem?_append_right (by omega), hr] at hx
      obtain ⟨r', e1, e2⟩ := h2 _ _ hx
      have hs : 0 < size := by
        rcases Nat.eq_zero_or_pos size with e | e
        · subst e
          have hf : rows.flatten.length = 0 := by rw [h1]; simp
          have := List.length_eq_zero_iff.1 hf
          rw [this] at hx; simp at hx
        · exact e
      have hd : k / size = (k - size) / size + 1 := by
        rw [← Nat.add_div_right _ hs, Nat.sub_add_cancel (by omega)]
      have hm : k % size = (k - size) % size := by
        rw [← Nat.add_mod_right (k - size), Nat.sub_add_cancel (by omega)]
      exact ⟨r', by rw [hd]; simpa using e1, by rw [hm]; exact e2⟩

/-- rows of the world, as cells one behind the other -/
theorem rows_cells {w : World} {l : Loc} {es : Nat} {rs : List (List AV)} (hw : RowsOk ρ w l es rs) {i len : Nat} {rows : List (List AV)} (ht : takeN len (dropN i rs) = some rows) :
    rows.length = len ∧ (∀ (k : Nat) (r : List AV), rows[k]? = some r → r.length = es) ∧ ∃ us, VL ρ rows.flatten us ∧ us.length = len * es ∧ Cells w l.blk (l.off + i * es) us := by
  obtain ⟨h1, h2⟩ := (takeN_eq _ _ _).1 ht
  rw [dropN_eq] at h1 h2
  have hget : ∀ (k : Nat) (r : List AV), rows[k]? = some r → rs[i + k]? = some r := fun k r hk => by
    rw [h2, List.getElem?_take] at hk
    split at hk
    · rwa [List.getElem?_drop] at hk
    · cases hk
  have hwd : ∀ (k : Nat) (r : List AV), rows[k]? = some r → r.length = es := fun k r hk => hw.width _ _ (hget k r hk)
  have hlen : rows.length = len := by rw [h2, List.length_take]; omega
  obtain ⟨f1, f2⟩ := flatten_get es rows hwd
  obtain ⟨us, h3, h4⟩ := VL.of_cells (ρ := ρ) rows.flatten (fun j => w.cell? ⟨l.blk, l.off + i * es + j, none⟩) fun j v hv => by
    obtain ⟨r, e1, e2⟩ := f2 j v hv
    obtain ⟨u, k1, k2⟩ := hw.cell _ _ _ _ (hget _ _ e1) e2
    refine ⟨u, k1, ?_⟩
    rw [← k2]
    have : j / es * es + j % es = j := by rw [Nat.mul_comm]; exact Nat.div_add_mod j es
    congr 2
    rw [Nat.add_mul]; omega
  exact ⟨hlen, hwd, us, h3, by rw [h3.length, f1, hlen], h4⟩

theorem Cells.heap {w w' : World} {b o : Nat} {us : List Value} (h : Cells w b o us) (hh : w'.heap = w.heap) : Cells w' b o us := fun j u hj => by
  rw [← h j u hj]; simp [World.cell?, hh]

theorem slRow_sound {size : Nat} {v : AV} {b i len : Nat} (h : slRow size v = some (b, i, len)) {p : Value} (hp : VR ρ v p) : ∃ l, ρ b = some l ∧ ((∃ c, p = .slice (some ⟨l.blk, l.off + i * size, none⟩) len c ∧
      ((∃ o, v = .sl b o len c ∧ o = i * size ∧ 0 < size) ∨ (v = .so b i len size ∧ l.es = size ∧ c = l.room - i ∧ i + len ≤ l.room ∧ 0 < size))) ∨
    (v = .so b i len size ∧ len = 0 ∧ l.room = i ∧ l.es = size ∧ 0 < size ∧ ∃ x, p = .slice (some ⟨l.blk, x, none⟩) 0 0)) := by
  unfold slRow at h
  split at h
  · split at h
    · cases h
    · split at h
      · rename_i hz
        cases h
        obtain ⟨l, hl, hv⟩ := hp
        refine ⟨l, hl, .inl ⟨_, ?_, .inl ⟨_, rfl, ?_, Nat.succ_pos _⟩⟩⟩
        · rw [hv, Nat.div_mul_cancel (Nat.dvd_of_mod_eq_zero hz)]
        · rw [Nat.div_mul_cancel (Nat.dvd_of_mod_eq_zero hz)]
      · cases h
  · split at h
    · rename_i he
      cases h
      have he' := Nat.eq_of_beq_eq_true he
      subst he'
      obtain ⟨l, hl, q1, q2, q3, hv⟩ := hp
      refine ⟨l, hl, ?_⟩
      rcases hv with hv | ⟨r1, r2, r3⟩
      · exact .inl ⟨_, hv, .inr ⟨rfl, q1, rfl, q3, q2⟩⟩
      · exact .inr ⟨rfl, r1, r2, q1, q2, r3⟩
    · cases h
  · cases h

theorem flatten_one {α β : Type} (f : α → β) (s : List α) : (s.map fun c => [f c]).flatten = s.map f := by
  induction s with
  | nil => rfl
  | cons c s ih => simp [ih]

theorem rowsOf_sound {h : H} {w : World} (hr : R ρ h w) {size : Nat} {v : AV} {rows : List (List AV)} (ho : rowsOf h size v = some rows) {p : Value} (hp : VR ρ v p) : Elems P ρ w size rows p := by
  unfold rowsOf at ho
  split at ho
  · cases ho
    have hp' : p = .slice none 0 0 := hp
    subst hp'
    exact ⟨by simp, rfl, [], rfl, by simp, fun w' n _ _ => by simp [Builtin.firstCells]⟩
  · rename_i s
    split at ho
    · cases ho
      rw [VR.str hp]
      refine ⟨fun i r hi => ?_, by simp [Builtin.lenOf, ByteArray.size], s.map fun c => .int .u8 c.toNat, ?_, by simp, fun w' n _ hn => ?_⟩
      · rw [List.getElem?_map] at hi
        cases hs : s[i]? with
        | none => rw [hs] at hi; cases hi
        | some c => rw [hs] at hi; cases hi; rfl
      · rw [flatten_one]
        refine VL.mk (by simp) fun i x u hx hu => ?_
        rw [List.getElem?_map] at hx hu
        cases hs : s[i]? with
        | none => rw [hs] at hx; cases hx
        | some c => rw [hs] at hx hu; cases hx; cases hu; rfl
      · simp only [Builtin.firstCells]
        simp only [Sem.run_pure, Result.ok.injEq, and_true]
        apply Array.ext'
        simp [ByteArray.data_extract, List.map_take]
    · cases ho
  · cases ho
    have hz : Top.has .emp p := hp
    obtain ⟨y, c, rfl⟩ := hz
    refine ⟨by simp, rfl, [], rfl, by simp, fun (w' : World) (n : Nat) _ hn => ?_⟩
    have hn0 : n = 0 := by simpa using hn
    rw [hn0]
    simp [Builtin.firstCells, loadCells, loadCellsFrom]
  · split at ho
    · rename_i b i len hs
      obtain ⟨l, hl, hcase⟩ := slRow_sound hs hp
      have hlenp : ∃ a c, p = .slice (some a) len c := by
        rcases hcase with ⟨c, hc, _⟩ | ⟨_, e1, _, _, _, x, hc⟩
        · exact ⟨_, _, hc⟩
        · exact ⟨_, _, by rw [hc, e1]⟩
      split at ho
      · cases ho
        obtain ⟨a, c, hpc⟩ := hlenp
        subst hpc
        refine ⟨by simp, rfl, [], rfl, by simp, fun (w' : World) (n : Nat) _ hn => ?_⟩
        have hn0 : n = 0 := by simpa using hn
        rw [hn0]
        simp [Builtin.firstCells, loadCells, loadCellsFrom]
      · rename_i k
        split at ho
        · rename_i es rs ro pv nx hg
          split at ho
          · rename_i he
            have he' := Nat.eq_of_beq_eq_true he
            subst he'
            obtain ⟨hw, _⟩ := hr.rows hl hg
            obtain ⟨g1, g2, us, g3, g4, g5⟩ := rows_cells hw ho
            rcases hcase with ⟨c, hc, _⟩ | ⟨_, e1, _⟩
            · subst hc
              refine ⟨g2, by simp [Builtin.lenOf, g1], us, g3, by rw [g4, g1], fun w' n hh hn => ?_⟩
              have hle : n * es ≤ us.length := by rw [g4, ← g1]; exact Nat.mul_le_mul_right _ hn
              exact run_firstCells_some (P := P) w' es n _ _ _ (us.take (n * es)) (by rw [List.length_take]; omega) (fun j u hj => by
                rw [add_plain]
                rw [List.getElem?_take] at hj
                split at hj
                · exact (g5.heap hh) j u hj
                · cases hj)
            · omega
          · cases ho
        · cases ho
    · cases ho

theorem rowsOf_shape {h : H} {size : Nat} {v : AV} {rows : List (List AV)} (ho : rowsOf h size v = some rows) {p : Value} (hp : VR ρ v p) : (∃ s, v = .str s) ∨ ∃ a n c, p = .slice a n c := by
  unfold rowsOf at ho
  split at ho
  · exact .inr ⟨_, _, _, hp⟩
  · exact .inl ⟨_, rfl⟩
  · have hz : Top.has .emp p := hp
    obtain ⟨y, c, rfl⟩ := hz
    exact .inr ⟨_, _, _, rfl⟩
  · split at ho
    · rename_i hs
      obtain ⟨l, hl, ⟨c, hc, _⟩ | ⟨_, _, _, _, _, x, hc⟩⟩ := slRow_sound hs hp
      · exact .inr ⟨_, _, _, hc⟩
      · exact .inr ⟨_, _, _, hc⟩
    · cases ho

theorem bytesOf_cons (r : List AV) (rs : List (List AV)) : bytesOf (r :: rs) = match r, bytesOf rs with
    | [.int .u8 n], some z => some (UInt8.ofNat n.toNat :: z)
    | _, _ => none := rfl
theorem bytesOf_sound : ∀ {rows : List (List AV)} {s : List UInt8} {us : List Value}, bytesOf rows = some s → VL ρ rows.flatten us → ∃ ns : List Int, us = ns.map (Value.int .u8) ∧ s = ns.map fun n => UInt8.ofNat n.toNat
  | [], s, us, h, hu => by
    cases h
    simp only [List.flatten_nil, VL] at hu
    subst hu
    exact ⟨[], rfl, rfl⟩
  | r :: rows, s, us, h, hu => by
    rw [bytesOf_cons] at h
    split at h
    · rename_i n z hz
      cases h
      simp only [List.flatten_cons, List.cons_append, List.nil_append] at hu
      obtain ⟨u, l', h1, h2, rfl⟩ := hu
      obtain ⟨ns, e1, e2⟩ := bytesOf_sound hz h2
      simp only [VS] at h1
      subst h1 e1 e2
      exact ⟨n :: ns, rfl, rfl⟩
    · cases h
theorem foldl_push (ns : List Int) : ∀ s : ByteArray, ns.foldl (fun r n => r.push (UInt8.ofNat n.toNat)) s = ⟨(s.data.toList ++ ns.map fun n => UInt8.ofNat n.toNat).toArray⟩ := by
  induction ns with
  | nil => intro s; simp
  | cons n ns ih =>
    intro s
    rw [List.foldl_cons, ih]
    congr 1
    apply Array.ext'
    simp [ByteArray.push]

/-- a type's zero value -/
theorem zero_v1 {t : TypeId} {ti : TI} {i : TypeInfo} {z : Value} {d : TypeDesc} (hT : TIok P t ti i z d) {v : AV} (h : mkV ti ti.zero = some v) : V1 ρ v z := by
  have hz := hT.zok
  have hc := hT.zcells ρ
  have ha := hT.agg
  rcases mkV_sound h hc with ⟨h1, rfl⟩ | ⟨h1, a, u, h2, rfl, h4, h5⟩
  · rw [h1] at ha
    cases d <;> simp only [aggOf] at ha <;> first
      | (cases ha; done)
      | (cases z <;> simp only [zOk] at hz <;> first
          | (cases hz; done)
          | (exact ⟨_, hc, by simp [Value.cells]⟩))
  · rw [h1] at ha
    have hna : ∀ cs, z ≠ .agg cs := fun cs e => by
      subst e
      cases d <;> simp only [aggOf, zOk] at ha hz <;> first | (cases ha; done) | (cases hz; done)
    have hzc : z.cells.toList = [z] := by cases z <;> first | rfl | (exact absurd rfl (hna _))
    rw [hzc] at h4
    have : u = z := by simpa using h4.symm
    subst this
    exact V1.of_VS h5
theorem read_sound (hE : EnvOk P E) {h : H} {w : World} (hr : R ρ h w) {o : Oper} {v : AV} (hv : readA E fr h o.op = some v) (hk : Knows ρ fr ev o.op.operands) :
    ∃ u, VR ρ v u ∧ (execOp ev o).run P w = .ok (.value u) w := by
  obtain ⟨dst, op, type, pos, after, guard⟩ := o
  cases op <;> simp only [readA] at hv <;> try (cases hv; done)
  case load t x =>
    split at hv
    · rename_i ti b o hti hx
      split at hv
      · rename_i cs hcs
        obtain ⟨i, z, d, hT⟩ := hE.tt _ _ hti
        obtain ⟨l, hl, hp⟩ := hk x (by simp [Op.operands]) _ hx
        obtain ⟨h1, us, h2, h3⟩ := load_sound hr hcs hl
        obtain ⟨u, h4, h5⟩ := run_loadVar hT h1 h2 h3 hv
        exact ⟨u, h4, by simp [execOp, Instr.loadAt, Instr.sureAddr, hp, h5]⟩
      · cases hv
    · cases hv
  case lookup t x ix ok =>
    split at hv
    · rename_i ti b k hti hx hix
      split at hv
      · rename_i kt et hke
        split at hv
        · rename_i tk te es htk hte hget
          obtain ⟨i, z, d, hT⟩ := hE.tt _ _ hti
          obtain ⟨ik, zk, dk, hK⟩ := hE.tt _ _ htk
          obtain ⟨ie, ze, de, hE'⟩ := hE.tt _ _ hte
          have hkk := hT.k
          rw [hke] at hkk
          have hd := tkOf_map hkk
          subst hd
          obtain ⟨l, hl, hp⟩ := hk x (by simp [Op.operands]) _ hx
          have hkey := hk ix (by simp [Op.operands]) _ hix
          split at hv
          · rename_i hki hf
            cases hv
            rw [hK.k] at hki
            obtain ⟨V, q1, q2⟩ := lookup_some (P := P) hr hl hget hT.und hK.und hki (key_v1 hki hkey) hf ok
            refine ⟨if ok then .tuple #[V, .bool true] else V, ?_, by simp [execOp, hp, q2]⟩
            cases ok with
            | false => exact v1_vr q1
            | true => exact ⟨[V, .bool true], ⟨V, _, q1, ⟨_, _, rfl, rfl, rfl⟩, rfl⟩, rfl⟩
          · rename_i zv hki hf hz
            cases hv
            rw [hK.k] at hki
            have hzv := zero_v1 (ρ := ρ) hE' hz
            have q2 := lookup_none (P := P) hr hl hget hT.und hK.und hki (key_v1 hki hkey) hf (hE'.run_zero w) ok
            refine ⟨if ok then .tuple #[ze, .bool false] else ze, ?_, by simp [execOp, hp, q2]⟩
            cases ok with
            | false => exact v1_vr hzv
            | true => exact ⟨[ze, .bool false], ⟨ze, _, hzv, ⟨_, _, rfl, rfl, rfl⟩, rfl⟩, rfl⟩
          · cases hv
        · cases hv
      · cases hv
    · cases hv
  case convert src dst x =>
    split at hv
    · rename_i si ti a hsi hti hx
      obtain ⟨i, z, d, hT⟩ := hE.tt _ _ hti
      obtain ⟨i', z', d', hS⟩ := hE.tt _ _ hsi
      have hkk := hT.k
      have hd := hT.und
      have hp := hk x (by simp [Op.operands]) _ hx
      have hs := hS.run_und w
      split at hv
      · rename_i k k' n hke
        rw [hke] at hkk
        have := tkOf_int hkk; subst this
        cases hv
        have hp' := VR.int hp
        refine ⟨_, rfl, ?_⟩
        simp [execOp, convert, run_underlying hd, hs, hp', Conv.intToInt]
      · rename_i s hke
        rw [hke] at hkk
        have := tkOf_str hkk; subst this
        cases hv
        have hp' := VR.str hp
        refine ⟨_, rfl, ?_⟩
        simp [execOp, convert, run_underlying hd, hs, hp']
      · rename_i hke hns
        rw [hke] at hkk
        have := tkOf_str hkk; subst this
        split at hv
        · rename_i e hse
          have hsk := hS.k
          rw [hse] at hsk
          have := tkOf_slice hsk; subst this
          split at hv
          · rename_i te hte
            obtain ⟨ie, ze, de, hTe⟩ := hE.tt _ _ hte
            split at hv
            · rename_i hek
              have hkk' := hTe.k
              rw [hek] at hkk'
              have := tkOf_int hkk'; subst this
              split at hv
              · rename_i rs hrs
                split at hv
                · rename_i s hbs
                  cases hv
                  refine ⟨_, rfl, ?_⟩
                  have hel := rowsOf_sound (P := P) hr hrs hp
                  obtain ⟨us, e1, e0, e2⟩ := hel.cells
                  obtain ⟨ns, e3, e4⟩ := bytesOf_sound hbs e1
                  have e5 := e2 w rs.length rfl (Nat.le_refl _)
                  rw [← e0, List.take_length] at e5
                  obtain ⟨b, n, c, hps⟩ : ∃ b n c, ev x = .slice b n c := by
                    rcases rowsOf_shape hrs hp with ⟨s', hs'⟩ | hh
                    · exact absurd hs' (hns s')
                    · exact hh
                  rw [hps] at e5
                  have hl := hel.len
                  rw [hps] at hl
                  simp only [Builtin.lenOf, Sem.run_pure, Result.ok.injEq, and_true] at hl
                  subst hl
                  have hgo : (convert src dst (ev x)).run P w = (Conv.bytesToString (ev x)).run P w := by
                    rw [hps]; exact run_convert_bytes_string w src dst e b _ c hS.und hTe.und hd
                  have hres : (Conv.bytesToString (ev x)).run P w = .ok (.string ⟨s.toArray⟩) w := by
                    rw [hps]
                    cases b with
                    | none =>
                      simp only [Builtin.firstCells, Sem.run_pure, Result.ok.injEq, and_true] at e5
                      have : us = [] := by simpa using congrArg Array.toList e5.symm
                      subst this
                      have : ns = [] := by simpa using e3.symm
                      subst this
                      subst e4
                      rfl
                    | some a =>
                      simp only [Builtin.firstCells, Nat.mul_one] at e5
                      rw [e3] at e5
                      rw [run_bytesToString w a _ c ns e5, foldl_push, e4]
                      rfl
                  simp only [execOp, Sem.run_bind, hgo, hres, Result.andThen_ok, Sem.run_pure]
                · cases hv
              · cases hv
            · cases hv
          · cases hv
        · cases hv
      · cases hv
    · cases hv
  case call c =>
    obtain ⟨callee, args, argTypes⟩ := c
    cases callee with
    | value f => cases hv
    | invoke r m => cases hv
    | builtin b =>
      cases b <;> simp only at hv <;> try (cases hv; done)
      split at hv
      · rename_i x hvs
        have hx := opnds_sound (ρ := ρ) (ev := ev) hvs fun x hx v hv => hk x (by simp [Op.operands, Call.operands]; simpa using hx) v hv
        obtain ⟨u, l', h1, h2, h3⟩ := hx
        simp only [VX] at h2; subst h2
        have h3' : args.map ev = #[u] := by apply Array.ext'; simpa using h3
        split at hv
        · rename_i t ts hts
          have hat : argTypes[0]? = some t := by rw [← Array.getElem?_toList, hts]; rfl
          split at hv
          · rename_i ti hti
            obtain ⟨i, z, d, hT⟩ := hE.tt _ _ hti
            have hkk := hT.k
            have hd := hT.und
            split at hv
            · rename_i e hke
              rw [hke] at hkk; have := tkOf_slice hkk; subst this
              cases hv
              have : u = .slice none 0 0 := h1
              subst this
              exact ⟨_, rfl, by simp [execOp, resolve, invoke, builtin, h3', Builtin.len_, hat, run_underlying hd, goInt]⟩
            · rename_i e b o n c hke
              rw [hke] at hkk; have := tkOf_slice hkk; subst this
              cases hv
              obtain ⟨l, hl, rfl⟩ := h1
              exact ⟨_, rfl, by simp [execOp, resolve, invoke, builtin, h3', Builtin.len_, hat, run_underlying hd, goInt]⟩
            · rename_i e b o n c hke
              rw [hke] at hkk; have := tkOf_slice hkk; subst this
              cases hv
              obtain ⟨l, hl, q1, q2, q3, rfl | ⟨rfl, _, x, rfl⟩⟩ := h1
              · exact ⟨_, rfl, by simp [execOp, resolve, invoke, builtin, h3', Builtin.len_, hat, run_underlying hd, goInt]⟩
              · exact ⟨_, rfl, by simp [execOp, resolve, invoke, builtin, h3', Builtin.len_, hat, run_underlying hd, goInt]⟩
            · rename_i s hke
              rw [hke] at hkk; have := tkOf_str hkk; subst this
              cases hv
              have hu := VR.str h1
              have hsz : (⟨s.toArray⟩ : ByteArray).size = s.length := by simp [ByteArray.size]
              exact ⟨_, rfl, by simp [execOp, resolve, invoke, builtin, h3', hu, Builtin.len_, hat, run_underlying hd, goInt, lenN_eq, hsz]⟩
            · rename_i e hke
              rw [hke] at hkk; have := tkOf_slice hkk; subst this
              cases hv
              have hz : Top.has .emp u := h1
              obtain ⟨y, c, rfl⟩ := hz
              exact ⟨_, rfl, by simp [execOp, resolve, invoke, builtin, h3', Builtin.len_, hat, run_underlying hd, goInt]⟩
            · rename_i e a b hke
              rw [hke] at hkk; have := tkOf_slice hkk; subst this
              cases hv
              obtain ⟨rfl, rfl⟩ | ⟨y, n, c, rfl, q1, q2⟩ := h1
              · exact ⟨_, ⟨0, rfl, by omega, by omega⟩, by simp [execOp, resolve, invoke, builtin, h3', Builtin.len_, hat, run_underlying hd, goInt]⟩
              · exact ⟨_, ⟨n, rfl, by omega, by omega⟩, by simp [execOp, resolve, invoke, builtin, h3', Builtin.len_, hat, run_underlying hd, goInt]⟩
            · rename_i a b hke
              rw [hke] at hkk; have := tkOf_str hkk; subst this
              cases hv
              obtain ⟨s, rfl, q1, q2⟩ := h1
              exact ⟨_, ⟨s.size, rfl, by omega, by omega⟩, by simp [execOp, resolve, invoke, builtin, h3', Builtin.len_, hat, run_underlying hd, goInt]⟩
            · rename_i k e hke
              rw [hke] at hkk; have := tkOf_map hkk; subst this
              cases hv
              have : u = .map none := h1
              subst this
              exact ⟨_, rfl, by simp [execOp, resolve, invoke, builtin, h3', Builtin.len_, hat, run_underlying hd, goInt]⟩
            · rename_i k e b hke
              rw [hke] at hkk; have := tkOf_map hkk; subst this
              split at hv
              · rename_i es hget
                cases hv
                obtain ⟨l, hl, hu⟩ := h1
                subst hu
                have hml := map_len (P := P) hr hl hget hd hat type
                exact ⟨_, rfl, by simp [execOp, resolve, invoke, builtin, h3', hml]⟩
              · cases hv
            · cases hv
          · cases hv
        · cases hv
      · cases hv
end
end Go.Abs

/-
  Allocations.
-/
namespace Go.Abs
open Go

section
variable {P : Program} {E : Env} {ρ : Pl} {fr : T AV} {ev : Operand → Value}

/-- rows, and the cells that they are -/
structure Grid (ρ : Pl) (size : Nat) (rows : List (List AV)) (C : Array Value) : Prop where
  count : C.size = rows.length * size
  wide : ∀ (i : Nat) (r : List AV), rows[i]? = some r → r.length = size
  cell : ∀ (i j : Nat) (r : List AV) (v : AV), rows[i]? = some r → r[j]? = some v → ∃ u, VS ρ v u ∧ C[i * size + j]? = some u

theorem Grid.mono {ρ' : Pl} (he : Ext ρ ρ') {size : Nat} {rows : List (List AV)} {C : Array Value} (h : Grid ρ size rows C) : Grid ρ' size rows C :=
  ⟨h.count, h.wide, fun i j r v h1 h2 => by obtain ⟨u, k1, k2⟩ := h.cell i j r v h1 h2; exact ⟨u, k1.mono he, k2⟩⟩

theorem Grid.one {cs : List AV} {C : Array Value} (h : VL ρ cs C.toList) {n : Nat} (hn : cs.length = n) : Grid ρ n [cs] C := by
  have hl := h.length
  refine ⟨by simp at hl ⊢; omega, fun i r hi => ?_, fun i j r v hi hj => ?_⟩
  · cases i with
    | zero => simp at hi; subst hi; exact hn
    | succ i => simp at hi
  · cases i with
    | zero =>
      simp at hi; subst hi
      obtain ⟨u, h1, h2⟩ := h.get hj
      exact ⟨u, h2, by simpa using h1⟩
    | succ i => simp at hi

theorem mod_lt_self (i size j : Nat) (hj : j < size) : (i * size + j) % size = j := by
  rw [Nat.add_comm, Nat.add_mul_mod_self_right]; exact Nat.mod_eq_of_lt hj

theorem Grid.zero {zs : List AV} {z : Array Value} (h : VL ρ zs z.toList) {size : Nat} (hs : zs.length = size) (n : Nat) :
    Grid ρ size (List.replicate n zs) ((Array.range (n * size)).map (z[· % z.size]!)) := by
  have hl := h.length
  have hz : z.size = size := by simp at hl; omega
  refine ⟨by simp, fun i r hi => ?_, fun i j r v hi hj => ?_⟩
  · rw [List.getElem?_replicate] at hi
    split at hi <;> cases hi
    exact hs
  · rw [List.getElem?_replicate] at hi
    split at hi <;> cases hi
    rename_i hin
    obtain ⟨u, h1, h2⟩ := h.get hj
    have hj' : j < size := by rw [← hs]; exact (List.getElem?_eq_some_iff.1 hj).1
    have hlt : i * size + j < n * size := by
      have : (i + 1) * size ≤ n * size := Nat.mul_le_mul_right _ hin
      rw [Nat.add_mul] at this; omega
    refine ⟨u, h2, ?_⟩
    have hjz : j < z.size := by omega
    have hu : z[j]? = some u := by simpa using h1
    have hzj : z[j]! = u := by
      rw [getElem!_def, hu]
    simp [hlt, hz, mod_lt_self i size j hj', hzj]

theorem setAt_get {α : Type} {l z : List α} {n : Nat} {x : α} (h : setAt l n x = some z) : n < l.length ∧ z.length = l.length ∧ ∀ i, z[i]? = if i = n then some x else l[i]? := by
  obtain ⟨h1, _⟩ := atN_over h
  refine ⟨by simp at h1; omega, atN_over_len h, fun i => ?_⟩
  rw [atN_over_get h]
  simp only [List.length_cons, List.length_nil]
  by_cases hi : i < n
  · rw [if_pos hi, if_neg (by omega)]
  · rw [if_neg hi]
    by_cases hi' : i = n
    · subst hi'; simp
    · rw [if_neg (by omega), if_neg hi']

theorem Grid.set {size : Nat} {rows rows' : List (List AV)} {C : Array Value} (h : Grid ρ size rows C) {n : Nat} {cs : List AV} (hs : setAt rows n cs = some rows') {us : List Value} (hu : VL ρ cs us) (hl : cs.length = size)
    {C' : Array Value} (hC : C'.toList = C.toList.take (n * size) ++ us ++ C.toList.drop (n * size + us.length)) : Grid ρ size rows' C' := by
  obtain ⟨h1, h2, h3⟩ := setAt_get hs
  have hul := hu.length
  have hfit : n * size + us.length ≤ C.size := by
    rw [h.count, hul, hl]
    have : (n + 1) * size ≤ rows.length * size := Nat.mul_le_mul_right _ h1
    rw [Nat.add_mul] at this; omega
  have hget : ∀ k, C'[k]? = if k < n * size then C[k]? else if k < n * size + us.length then us[k - n * size]? else C[k]? := fun k => by
    rw [← Array.getElem?_toList, hC, List.append_assoc]
    have ht : (C.toList.take (n * size)).length = n * size := by simp; omega
    split
    · rw [List.getElem?_append_left (by omega), List.getElem?_take]; simp [*]
    · rw [List.getElem?_append_right (by omega), ht]
      split
      · rw [List.getElem?_append_left (by omega)]
      · rw [List.getElem?_append_right (by omega), List.getElem?_drop]
        rw [← Array.getElem?_toList]; congr 1; omega
  refine ⟨?_, fun i r hi => ?_, fun i j r v hi hj => ?_⟩
  · have := congrArg List.length hC
    simp at this
    rw [h2, ← h.count]; omega
  · rw [h3] at hi
    split at hi
    · cases hi; exact hl
    · exact h.wide i r hi
  · rw [h3] at hi
    rw [hget]
    split at hi
    · rename_i e; subst e
      cases hi
      obtain ⟨u, k1, k2⟩ := hu.get hj
      refine ⟨u, k2, ?_⟩
      have : j < us.length := (List.getElem?_eq_some_iff.1 k1).1
      rw [if_neg (by omega), if_pos (by omega), Nat.add_sub_cancel_left]; exact k1
    · rename_i hne
      obtain ⟨u, k1, k2⟩ := h.cell i j r v hi hj
      have hj' : j < size := by rw [← h.wide i r hi]; exact (List.getElem?_eq_some_iff.1 hj).1
      refine ⟨u, k1, ?_⟩
      rcases Nat.lt_or_ge i n with hlt | hge
      · have : (i + 1) * size ≤ n * size := Nat.mul_le_mul_right _ hlt
        rw [Nat.add_mul] at this
        rw [if_pos (by omega)]; exact k2
      · have : (n + 1) * size ≤ i * size := Nat.mul_le_mul_right _ (by omega)
        rw [Nat.add_mul] at this
        rw [if_neg (by omega), if_neg (by omega)]; exact k2

theorem fillR_cons (size : Nat) (p : Nat × AV) (ps : List (Nat × AV)) (rows : List (List AV)) : fillR size (p :: ps) rows =
    match p.2.cellsN size with
    | some cs => match setAt rows p.1 cs with
      | some rows => fillR size ps rows
      | none => none
    | none => none := rfl

theorem fillR_sound {size : Nat} : ∀ {ps : List (Nat × AV)} {parts : List (Nat × Value)} {rows rows' : List (List AV)} {C : Array Value},
    PX ρ ps parts → fillR size ps rows = some rows' → Grid ρ size rows C → ∃ C' : Array Value, Instr.fill (fun i => some (i * size, size)) C parts = some C' ∧ Grid ρ size rows' C'
  | [], parts, rows, rows', C, h, k, hc => by
    simp only [PX] at h; subst h; cases k; exact ⟨C, rfl, hc⟩
  | (i, a) :: r, parts, rows, rows', C, h, k, hc => by
    obtain ⟨v, l', h1, h2, rfl⟩ := h
    rw [fillR_cons] at k
    split at k
    · rename_i cs hcs
      split at k
      · rename_i rows2 h3
        obtain ⟨q1, q2, q3⟩ := cellsN_sound h1 hcs
        obtain ⟨g1, g2, g3⟩ := setAt_get h3
        have ql := q1.length
        have hfit' : i * size + v.cells.toList.length ≤ C.size := by
          rw [hc.count, ql, q2]
          have : (i + 1) * size ≤ rows.length * size := Nat.mul_le_mul_right _ g1
          rw [Nat.add_mul] at this; omega
        have hfit : ¬ (v.cells.size ≠ size || i * size + v.cells.size > C.size) = true := by
          simp at hfit' ⊢
          exact ⟨q3, by omega⟩
        have hfold : (v.cells.zipIdx.foldl (fun cs (c, j) => cs.setIfInBounds (i * size + j) c) C).toList = C.toList.take (i * size) ++ v.cells.toList ++ C.toList.drop (i * size + v.cells.toList.length) := by
          have := foldSet (i * size) v.cells.toList 0 C (by simpa using hfit')
          rw [← Array.foldl_toList, Array.toList_zipIdx]
          simpa using this
        obtain ⟨C', e1, e2⟩ := fillR_sound h2 k (hc.set h3 q1 q2 hfold)
        refine ⟨C', ?_, e2⟩
        simp only [Instr.fill]
        rw [if_neg hfit]; exact e1
      · cases k
    · cases k

/-- a block just made -/
theorem BlkOk.made {w : World} {size : Nat} {rows : List (List AV)} {C : Array Value} {e : TypeId} (hg : Grid ρ size rows C) : BlkOk ρ (w.alloc (.cells C e)) ⟨w.heap.size, 0, rows.length, size⟩ (.rows size rows false none none) := by
  refine ⟨⟨hg.wide, fun i j r v h1 h2 => ?_⟩, fun _ => ⟨rfl, fun o ho => by simp, fun o ho => ?_, Nat.le_refl _⟩⟩
  · obtain ⟨u, k1, k2⟩ := hg.cell i j r v h1 h2
    exact ⟨u, k1, by simp only [Nat.zero_add]; rw [World.cell?_alloc_new]; exact k2⟩
  · have : o < C.size := by rw [hg.count]; exact ho
    exact ⟨C[o], by simp only [Nat.zero_add]; rw [World.cell?_alloc_new]; simp [this]⟩

theorem alloc_sound (hE : EnvOk P E) {o : Oper} {x : Blk} {mk : Nat → AV} (h : allocA E fr o.op = some (x, mk)) (hk : Knows ρ fr ev o.op.operands) (w : World) :
    ∃ u C e l, (execOp ev o).run P w = .ok (.value u) (w.alloc (.cells C e)) ∧ l.blk = w.heap.size ∧ x.prev = none ∧ x.next = none ∧
      ∀ id, ρ id = none → BlkOk (ρ.add id l) (w.alloc (.cells C e)) l x ∧ VR (ρ.add id l) (mk id) u := by
  have fin : ∀ (size : Nat) (rows : List (List AV)) (C : Array Value) (e : TypeId) (mk : Nat → AV) (u : Value), Grid ρ size rows C → (execOp ev o).run P w = .ok (.value u) (w.alloc (.cells C e)) →
      (∀ id, VR (ρ.add id ⟨w.heap.size, 0, rows.length, size⟩) (mk id) u) →
      ∃ u C e l, (execOp ev o).run P w = .ok (.value u) (w.alloc (.cells C e)) ∧ l.blk = w.heap.size ∧ (Blk.rows size rows false none none).prev = none ∧ (Blk.rows size rows false none none).next = none ∧
      ∀ id, ρ id = none → BlkOk (ρ.add id l) (w.alloc (.cells C e)) l (.rows size rows false none none) ∧ VR (ρ.add id l) (mk id) u := fun size rows C e mk u hg hrun hv =>
    ⟨u, C, e, _, hrun, rfl, rfl, rfl, fun id hid => ⟨BlkOk.made (hg.mono (Pl.ext_add hid)), hv id⟩⟩
  obtain ⟨dst, op, type, pos, after, guard⟩ := o
  cases op <;> simp only [allocA] at h <;> try (cases h; done)
  case alloc t =>
    split at h
    · rename_i ti hti
      cases h
      obtain ⟨i, z, d, hT⟩ := hE.tt _ _ hti
      exact fin _ _ z.cells t _ (.pointer (some ⟨w.heap.size, 0, none⟩)) (Grid.one (hT.zcells ρ) hT.zlen) (by simp [execOp, Instr.alloc, hT.run_zero w, newVar, newRow]) fun id => ⟨⟨w.heap.size, 0, 1, ti.size⟩, by simp [Pl.add], rfl⟩
    · cases h
  case box t x =>
    split at h
    · rename_i ti v hti hx
      split at h
      · rename_i cs hcs
        cases h
        obtain ⟨q1, q2, q3⟩ := cellsN_sound (hk x (by simp [Op.operands]) _ hx) hcs
        exact fin _ _ (ev x).cells t _ (.pointer (some ⟨w.heap.size, 0, none⟩)) (Grid.one q1 q2) (by simp [execOp, Instr.box, newVar, newRow]) fun id => ⟨⟨w.heap.size, 0, 1, ti.size⟩, by simp [Pl.add], rfl⟩
      · cases h
    · cases h
  case buildSlice t len ps =>
    split at h
    · rename_i ti vs hti hvs
      obtain ⟨i, z, d, hT⟩ := hE.tt _ _ hti
      have hkk := hT.k
      have hd := hT.und
      have hps : PX ρ vs (ps.map fun (i, x) => (i, ev x)).toList := by
        rw [Array.toList_map]
        exact partsOf_sound hvs fun i x hx v hv => hk x (by simp only [Op.operands, List.mem_toArray, List.mem_map]; exact ⟨(i, x), hx, rfl⟩) v hv
      split at h
      · rename_i e hke
        rw [hke] at hkk
        have := tkOf_slice hkk; subst this
        split at h
        · rename_i te hte
          obtain ⟨i', z', d', hT'⟩ := hE.tt _ _ hte
          split at h
          · rename_i s hs hle
            split at h
            · rename_i rs hrs
              cases h
              have hle' : len * te.size ≤ 65536 := Nat.le_of_ble_eq_true hle
              have hzs : z'.cells.size = te.size := by have := (hT'.zcells ρ).length; rw [hT'.zlen] at this; simpa using this
              obtain ⟨C, e1, e2⟩ := fillR_sound hps hrs (Grid.zero (hT'.zcells ρ) hT'.zlen len)
              refine fin _ _ C e _ (.slice (some ⟨w.heap.size, 0, none⟩) len len) e2 ?_ fun id => ⟨⟨w.heap.size, 0, rs.length, te.size⟩, by simp [Pl.add], rfl⟩
              have hnb : ¬ (len * te.size > 2 ^ 24) := by omega
              by_cases hl0 : len * te.size = 0
              · have : len = 0 := by
                  rcases Nat.mul_eq_zero.1 hl0 with e | e
                  · exact e
                  · omega
                subst this
                have hC0 : ∀ f : Nat → Value, (Array.range (0 * te.size)).map f = #[] := fun f => by simp
                rw [hC0] at e1
                have e1' : Instr.fill (fun i => some (i * te.size, te.size)) #[] (ps.toList.map fun x => (x.fst, ev x.snd)) = some C := by simpa using e1
                simp [execOp, Instr.buildSlice, run_underlying hd, hT'.run_size w, e1', newRow, Array.range_zero']
              · simp only [execOp, Instr.buildSlice, run_underlying hd, hT'.run_size w, Sem.run_bind, Result.andThen_ok, hnb, if_false, hl0, Sem.run_pure, hT'.run_zero w, e1, newRow]
                simp
            · cases h
          · cases h
        · cases h
      · cases h
    · cases h
  case makeSlice t lx cx =>
    split at h
    · rename_i ti k1 l k2 c hti hl hc
      obtain ⟨i, z, d, hT⟩ := hE.tt _ _ hti
      have hkk := hT.k
      have hd := hT.und
      have hlv := VR.int (hk lx (by simp [Op.operands]) _ hl)
      have hcv := VR.int (hk cx (by simp [Op.operands]) _ hc)
      split at h
      · rename_i e l' c' hke hl' hc'
        rw [hke] at hkk
        have := tkOf_slice hkk; subst this
        have := natOf_eq hl'; subst this
        have := natOf_eq hc'; subst this
        split at h
        · rename_i te hte
          obtain ⟨i', z', d', hT'⟩ := hE.tt _ _ hte
          split at h
          · rename_i s hs h1 h2 h3
            cases h
            have h1' : l' ≤ c' := Nat.le_of_ble_eq_true h1
            have h2' : c' * te.bytes ≤ 1099511627776 := Nat.le_of_ble_eq_true h2
            have h3' : c' ≤ 1099511627776 := Nat.le_of_ble_eq_true h3
            have hb : (i'.bytes : Int) * (c' : Int) ≤ 281474976710656 := by
              rw [hT'.bytes]
              have : ((te.bytes * c' : Nat) : Int) ≤ 281474976710656 := by rw [Nat.mul_comm]; omega
              rwa [Int.natCast_mul] at this
            have hrun := run_make (P := P) w t e i' z' hd hT'.info hT'.zero k1 k2 l' c' (by omega) (by omega) hb (by omega)
            simp only [Int.toNat_natCast, hT'.size] at hrun
            refine fin _ _ (madeCells z'.cells (c' * te.size)) e _ (.slice (some ⟨w.heap.size, 0, none⟩) l' c') (Grid.zero (hT'.zcells ρ) hT'.zlen c') ?_ fun id => ⟨⟨w.heap.size, 0, (List.replicate c' te.zero).length, te.size⟩, by simp [Pl.add], rfl⟩
            simp [execOp, hlv, hcv, hrun]
          · cases h
        · cases h
      · cases h
    · cases h
end
end Go.Abs
