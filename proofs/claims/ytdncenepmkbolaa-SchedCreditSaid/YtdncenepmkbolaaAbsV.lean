/-
  Every pure operation does in the model what it does here (3).
-/
import Derived.Test.YtdncenepmkbolaaAbsU
namespace Go.Abs
open Go

section
variable {P : Program} {E : Env} {ρ : Pl} {fr : T AV} {ev : Operand → Value}

theorem mkV_sound {ti : TI} {cs : List AV} {v : AV} (h : mkV ti cs = some v) {us : List Value} (hu : VL ρ cs us) :
    (ti.agg = true ∧ v = .agg cs) ∨ (ti.agg = false ∧ ∃ a u, cs = [a] ∧ v = a ∧ us = [u] ∧ VS ρ a u) := by
  unfold mkV at h
  split at h
  · cases h; left; exact ⟨by assumption, rfl⟩
  · split at h
    · cases h
      right
      obtain ⟨u, l, h1, h2, h3⟩ := hu
      simp only [VL] at h2
      subst h2
      exact ⟨by assumption, _, _, rfl, rfl, h3, h1⟩
    · cases h

/-- a part of a value's cells -/
theorem part_sound {t : TypeId} {ti : TI} {i : TypeInfo} {z : Value} {d : TypeDesc} (hT : TIok P t ti i z d) {cs : List AV} {us : List Value} (hu : VL ρ cs us) {o : Nat} {c : List AV} (hc : takeN ti.size (dropN o cs) = some c) {v : AV} (hv : mkV ti c = some v) :
    ∃ u, VR ρ v u ∧ ∀ w, (part t us.toArray o).run P w = .ok u w := by
  obtain ⟨h1, h2⟩ := (takeN_eq _ _ _).1 hc
  rw [dropN_eq] at h1 h2
  have hw := (hu.drop o).take ti.size
  rw [← h2] at hw
  rcases mkV_sound hv hw with ⟨ha, rfl⟩ | ⟨ha, a, u, e1, rfl, e3, e4⟩
  · have hag : aggOf d = true := by rw [← hT.agg]; exact ha
    refine ⟨.agg ((us.drop o).take ti.size).toArray, ⟨_, hw, rfl⟩, fun w => ?_⟩
    rw [run_part_agg w hT.und hag _ _ i hT.info]
    congr 2
    apply Array.ext'
    simp [hT.size, List.take_drop]
  · have hag : aggOf d = false := by rw [← hT.agg]; exact ha
    refine ⟨u, VR.of_V1 (V1.of_VS e4), fun w => run_part w hT.und hag _ _ _ ?_⟩
    have := congrArg (·[0]?) e3
    simp only [List.getElem?_cons_zero, List.getElem?_take, List.getElem?_drop, Nat.add_zero] at this
    split at this
    · simpa using this
    · cases this

theorem minmax_sound {f : AV → AV → Option AV} {g : Value → Value → Sem Value} (hfg : ∀ (a b c : AV) (p q : Value), f a b = some c → VR ρ a p → VR ρ b q → ∃ r, VR ρ c r ∧ ∀ w, (g p q).run P w = .ok r w) :
    ∀ {r : List AV} {us : List Value} {x y : AV} {p : Value}, foldO f x r = some y → VR ρ x p → VX ρ r us → ∃ u, VR ρ y u ∧ ∀ w, (us.foldlM g p).run P w = .ok u w
  | [], us, x, y, p, h, hp, hu => by
    simp only [foldO, Option.some.injEq] at h; subst h
    simp only [VX] at hu; subst hu
    exact ⟨p, hp, fun w => by simp⟩
  | a :: r, us, x, y, p, h, hp, hu => by
    obtain ⟨v, l', h1, h2, rfl⟩ := hu
    simp only [foldO] at h
    split at h
    · rename_i z hz
      obtain ⟨q, k1, k2⟩ := hfg _ _ _ _ _ hz hp h1
      obtain ⟨u, k3, k4⟩ := minmax_sound hfg h k1 h2
      exact ⟨u, k3, fun w => by simp [List.foldlM_cons, k2 w, k4 w]⟩
    · cases h

theorem min2_sound (a b c : AV) (p q : Value) (h : min2 a b = some c) (hp : VR ρ a p) (hq : VR ρ b q) : ∃ r, VR ρ c r ∧ ∀ w, (Builtin.min2 p q).run P w = .ok r w := by
  unfold min2 at h
  split at h
  · cases h; rw [VR.int hp, VR.int hq]; exact ⟨_, rfl, fun w => by simp [Builtin.min2]⟩
  · split at h
    · rename_i h1 h2
      cases h
      obtain ⟨m, rfl, m1, m2⟩ := ivl_sound h1 hp
      obtain ⟨n, rfl, n1, n2⟩ := ivl_sound h2 hq
      refine ⟨_, ⟨if n < m then n else m, rfl, ?_⟩, fun w => by simp [Builtin.min2]⟩
      repeat' split
      all_goals omega
    · cases h
theorem max2_sound (a b c : AV) (p q : Value) (h : max2 a b = some c) (hp : VR ρ a p) (hq : VR ρ b q) : ∃ r, VR ρ c r ∧ ∀ w, (Builtin.max2 p q).run P w = .ok r w := by
  unfold max2 at h
  split at h
  · cases h; rw [VR.int hp, VR.int hq]; exact ⟨_, rfl, fun w => by simp [Builtin.max2]⟩
  · split at h
    · rename_i h1 h2
      cases h
      obtain ⟨m, rfl, m1, m2⟩ := ivl_sound h1 hp
      obtain ⟨n, rfl, n1, n2⟩ := ivl_sound h2 hq
      refine ⟨_, ⟨if m < n then n else m, rfl, ?_⟩, fun w => by simp [Builtin.max2]⟩
      repeat' split
      all_goals omega
    · cases h

theorem VX.toVL : ∀ {a : List AV} {l : List Value}, VX ρ a l → a.all AV.one = true → VL ρ a l
  | [], _, h, _ => h
  | a :: r, l, h, k => by
    obtain ⟨v, l', h1, h2, rfl⟩ := h
    simp only [List.all_cons, Bool.and_eq_true] at k
    exact ⟨v, l', by cases a <;> first | exact h1 | (exact absurd k.1 (by simp [AV.one])), VX.toVL h2 k.2, rfl⟩

theorem wrap_neg (k : IntKind) (n : Int) : k.wrap (0 - n) = k.wrap (0 - n) := rfl

theorem pure_sound (hE : EnvOk P E) {o : Oper} {v : AV} (h : pureA E fr o.op = some v) (hk : Knows ρ fr ev o.op.operands) :
    ∃ u, VR ρ v u ∧ ∀ w, (execOp ev o).run P w = .ok (.value u) w := by
  obtain ⟨dst, op, type, pos, after, guard⟩ := o
  cases op <;> simp only [pureA] at h <;> try (cases h; done)
  case move x => exact ⟨_, hk x (by simp [Op.operands]) v h, fun w => by simp [execOp]⟩
  case assign x => exact ⟨_, hk x (by simp [Op.operands]) v h, fun w => by simp [execOp]⟩
  case pick c a b =>
    split at h
    · rename_i hc
      have := VR.bool (hk c (by simp [Op.operands]) _ hc)
      exact ⟨_, hk a (by simp [Op.operands]) v h, fun w => by simp [execOp, this, asBool]⟩
    · rename_i hc
      have := VR.bool (hk c (by simp [Op.operands]) _ hc)
      exact ⟨_, hk b (by simp [Op.operands]) v h, fun w => by simp [execOp, this, asBool]⟩
    · cases h
  case build t ps =>
    split at h
    · rename_i ti vs hti hvs
      have hps : PX ρ vs (ps.map fun (i, x) => (i, ev x)).toList := by
        rw [Array.toList_map]
        exact partsOf_sound hvs fun i x hx v hv => hk x (by simp only [Op.operands, List.mem_toArray, List.mem_map]; exact ⟨(i, x), hx, rfl⟩) v hv
      split at h
      · rename_i fs hkk
        split at h
        · rename_i cs hcs
          cases h
          obtain ⟨C, h1, h2⟩ := build_struct hE hti hkk hps hcs
          exact ⟨.agg C, ⟨C.toList, h1, by simp⟩, fun w => by simp [execOp, h2 w]⟩
        · cases h
      · rename_i n e hkk
        split at h
        · rename_i te hte
          split at h
          · rename_i cs hcs
            cases h
            obtain ⟨C, h1, h2⟩ := build_arr hE hti hkk hte hps hcs
            exact ⟨.agg C, ⟨C.toList, h1, by simp⟩, fun w => by simp [execOp, h2 w]⟩
          · cases h
        · cases h
      · cases h
    · cases h
  case nilCheck x =>
    split at h
    · rename_i b o hx
      cases h
      have hv := hk x (by simp [Op.operands]) _ hx
      obtain ⟨a, ha⟩ := VS_ptr hv
      exact ⟨_, hv, fun w => by simp [execOp, ha]⟩
    · rename_i f c hx
      cases h
      have hv := hk x (by simp [Op.operands]) _ hx
      obtain ⟨a, ha⟩ := VS_fn hv
      exact ⟨_, hv, fun w => by simp [execOp, ha]⟩
    · cases h
  case binOp bop t x y t2 =>
    split at h
    · rename_i a b ha hb
      obtain ⟨u, h1, h2⟩ := binop_sound hE h (hk x (by simp [Op.operands]) _ ha) (hk y (by simp [Op.operands]) _ hb) x y
      refine ⟨u, h1, fun w => ?_⟩
      have := h2 w
      simp only [execOp, Sem.run_bind] at this ⊢
      rw [this]; rfl
    · cases h
  case unOp uop t x =>
    split at h
    · rename_i b hx
      cases h
      exact ⟨_, rfl, fun w => by simp [execOp, VR.bool (hk x (by simp [Op.operands]) _ hx), Op.unary]⟩
    · rename_i k n hx
      cases h
      exact ⟨_, rfl, fun w => by simp [execOp, VR.int (hk x (by simp [Op.operands]) _ hx), Op.unary, Op.intArith]⟩
    · cases h
  case makeFunc fn first cap =>
    cases fn <;> simp only at h <;> try (cases h; done)
    rename_i f
    split at h
    · rename_i vs hvs
      split at h
      · rename_i hf hall
        cases h
        have hx := opnds_sound (ρ := ρ) (ev := ev) hvs fun x hx v hv => hk x (by simp [Op.operands]; right; simpa using hx) v hv
        have hf' : first = #[] := by simpa using hf
        exact ⟨.func (.func f) #[] (cap.toList.map ev).toArray, ⟨_, hx.toVL hall, rfl⟩, fun w => by simp [execOp, Instr.makeFunc, hf']; apply Array.ext'; simp⟩
      · cases h
    · cases h
  case slice t x lo hi mx =>
    split at h
    · rename_i a l0 h0 m0 ha hlo hhi hmx
      obtain ⟨u, h1, h2⟩ := sliceOp_sound hE h (hk x (by simp [Op.operands]) _ ha)
        (optOp_sound (ev := ev) hlo fun y hy => hk y (by simp [Op.operands, hy]))
        (optOp_sound (ev := ev) hhi fun y hy => hk y (by simp [Op.operands, hy]))
        (optOp_sound (ev := ev) hmx fun y hy => hk y (by simp [Op.operands, hy]))
      exact ⟨u, h1, fun w => by simp [execOp, h2 w]⟩
    · cases h
  case fieldAddr t x f =>
    split at h
    · rename_i ti b o hti hx
      obtain ⟨i, z, d, hT⟩ := hE.tt _ _ hti
      have hkk := hT.k
      have hd := hT.und
      split at h
      · rename_i fs hfs
        rw [hfs] at hkk
        obtain ⟨fields, rfl, rfl⟩ := tkOf_struct hkk
        split at h
        · rename_i ft off hn
          split at h
          · rename_i tf htf
            split at h
            · cases h
            · rename_i s hs
              cases h
              obtain ⟨i', z', d', hT'⟩ := hE.tt _ _ htf
              obtain ⟨l, hl, hv⟩ := hk x (by simp [Op.operands]) _ hx
              rw [nth_eq, List.getElem?_map] at hn
              cases hf : fields.toList[f]? with
              | none => rw [hf] at hn; cases hn
              | some fl =>
                rw [hf] at hn
                cases hn
                refine ⟨.pointer (some ⟨l.blk, l.off + (o + fl.offset), none⟩), ⟨l, hl, rfl⟩, fun w => ?_⟩
                have hf' : fields[f]? = some fl := by simpa using hf
                simp [execOp, Instr.fieldAt, run_underlying hd, hf', hv, Instr.sureAddr, fieldPlace, hT'.run_size w, hs, add_plain, Nat.add_assoc]
          · cases h
        · cases h
      · cases h
    · cases h
  case field t x f =>
    split at h
    · rename_i ti cs hti hx
      obtain ⟨i, z, d, hT⟩ := hE.tt _ _ hti
      have hkk := hT.k
      have hd := hT.und
      split at h
      · rename_i fs hfs
        rw [hfs] at hkk
        obtain ⟨fields, rfl, rfl⟩ := tkOf_struct hkk
        split at h
        · rename_i ft off hn
          split at h
          · rename_i tf htf
            split at h
            · rename_i c hc
              obtain ⟨i', z', d', hT'⟩ := hE.tt _ _ htf
              obtain ⟨us, hus, hv⟩ := hk x (by simp [Op.operands]) _ hx
              rw [nth_eq, List.getElem?_map] at hn
              cases hf : fields.toList[f]? with
              | none => rw [hf] at hn; cases hn
              | some fl =>
                rw [hf] at hn
                cases hn
                obtain ⟨u, h1, h2⟩ := part_sound hT' hus hc h
                have hf' : fields[f]? = some fl := by simpa using hf
                exact ⟨u, h1, fun w => by simp [execOp, Instr.field, run_underlying hd, hf', hv, asAgg, h2 w]⟩
            · cases h
          · cases h
        · cases h
      · cases h
    · cases h
  case indexAddr t x ix =>
    split at h
    · rename_i ti a k n hti hx hi
      obtain ⟨i, z, d, hT⟩ := hE.tt _ _ hti
      have hkk := hT.k
      have hd := hT.und
      have hiv := VR.int (hk ix (by simp [Op.operands]) _ hi)
      have hxv := hk x (by simp [Op.operands]) _ hx
      split at h
      · rename_i j hj
        have := natOf_eq hj; subst this
        split at h
        · rename_i e b o len c hke
          rw [hke] at hkk
          have := tkOf_slice hkk; subst this
          split at h
          · rename_i te hlt hte
            cases h
            obtain ⟨i', z', d', hT'⟩ := hE.tt _ _ hte
            obtain ⟨l, hl, hv⟩ := hxv
            have hlt' : j < len := by simpa [Nat.blt_eq] using hlt
            refine ⟨.pointer (some ⟨l.blk, l.off + (o + j * te.size), none⟩), ⟨l, hl, rfl⟩, fun w => ?_⟩
            simp [execOp, Instr.indexAt, hiv, asIntOf, run_underlying hd, hv, hlt', hT'.run_size w, add_plain, Nat.add_assoc]
          · cases h
        · rename_i e b r len es hke
          rw [hke] at hkk
          have := tkOf_slice hkk; subst this
          split at h
          · rename_i te hlt hte
            split at h
            · rename_i hes
              cases h
              obtain ⟨i', z', d', hT'⟩ := hE.tt _ _ hte
              obtain ⟨l, hl, q1, q2, q3, hv⟩ := hxv
              have hlt' : j < len := by simpa [Nat.blt_eq] using hlt
              have hes' : te.size = es := by simpa using hes
              rcases hv with hv | ⟨e1, _, _, _⟩
              · refine ⟨.pointer (some ⟨l.blk, l.off + (r + j) * es, none⟩), ⟨l, hl, rfl⟩, fun w => ?_⟩
                simp [execOp, Instr.indexAt, hiv, asIntOf, run_underlying hd, hv, hlt', hT'.run_size w, add_plain, hes', Nat.add_mul, Nat.add_assoc]
              · omega
            · cases h
          · cases h
        · rename_i n e b o hke
          rw [hke] at hkk
          have := tkOf_arr hkk; subst this
          split at h
          · rename_i te hlt hte
            cases h
            obtain ⟨i', z', d', hT'⟩ := hE.tt _ _ hte
            obtain ⟨l, hl, hv⟩ := hxv
            have hlt' : j < n := by simpa [Nat.blt_eq] using hlt
            refine ⟨.pointer (some ⟨l.blk, l.off + (o + j * te.size), none⟩), ⟨l, hl, rfl⟩, fun w => ?_⟩
            simp [execOp, Instr.indexAt, hiv, asIntOf, run_underlying hd, hv, hlt', hT'.run_size w, add_plain, Nat.add_assoc, Instr.sureAddr]
          · cases h
        · cases h
      · cases h
    · cases h
  case index t x ix =>
    split at h
    · rename_i ti a k n hti hx hi
      obtain ⟨i, z, d, hT⟩ := hE.tt _ _ hti
      have hkk := hT.k
      have hd := hT.und
      have hiv := VR.int (hk ix (by simp [Op.operands]) _ hi)
      have hxv := hk x (by simp [Op.operands]) _ hx
      split at h
      · rename_i j hj
        have := natOf_eq hj; subst this
        split at h
        · rename_i s hke
          rw [hke] at hkk
          have := tkOf_str hkk; subst this
          split at h
          · rename_i c hc
            cases h
            rw [nth_eq] at hc
            refine ⟨_, rfl, fun w => ?_⟩
            have hget : (⟨s.toArray⟩ : ByteArray)[j]? = some c := by
              obtain ⟨hj', hcc⟩ := List.getElem?_eq_some_iff.1 hc
              have : j < (⟨s.toArray⟩ : ByteArray).size := by simpa [ByteArray.size] using hj'
              rw [getElem?_pos _ j this]
              exact congrArg some hcc
            simp [execOp, Instr.index, hiv, asIntOf, run_underlying hd, VR.str hxv, hget]
          · cases h
        · rename_i n e cs hke
          rw [hke] at hkk
          have := tkOf_arr hkk; subst this
          split at h
          · rename_i te hlt hte
            split at h
            · rename_i c hc
              obtain ⟨i', z', d', hT'⟩ := hE.tt _ _ hte
              obtain ⟨us, hus, hv⟩ := hxv
              have hlt' : j < n := by simpa [Nat.blt_eq] using hlt
              obtain ⟨u, h1, h2⟩ := part_sound hT' hus hc h
              exact ⟨u, h1, fun w => by simp [execOp, Instr.index, hiv, asIntOf, run_underlying hd, hv, hlt', hT'.run_size w, h2 w]⟩
            · cases h
          · cases h
        · cases h
      · cases h
    · cases h
  case extract x i =>
    split at h
    · rename_i vs hx
      obtain ⟨us, hus, hv⟩ := hk x (by simp [Op.operands]) _ hx
      rw [nth_eq] at h
      obtain ⟨u, h1, h2⟩ := hus.get h
      have h1' : us.toArray[i]? = some u := by simpa using h1
      exact ⟨u, VR.of_V1 h2, fun w => by simp [execOp, Instr.extract, hv, h1']⟩
    · cases h
  case call c =>
    obtain ⟨callee, args, argTypes⟩ := c
    cases callee with
    | value f => cases h
    | invoke r m => cases h
    | builtin b =>
      simp only at h
      split at h
      · cases h
      · rename_i vs hvs
        have hx := opnds_sound (ρ := ρ) (ev := ev) hvs fun x hx v hv => hk x (by simp [Op.operands, Call.operands]; simpa using hx) v hv
        split at h
        · rename_i x r
          obtain ⟨u, l', h1, h2, h3⟩ := hx
          obtain ⟨y, h4, h5⟩ := minmax_sound (P := P) min2_sound h h1 h2
          have h3' : args.map ev = (u :: l').toArray := by apply Array.ext'; simpa using h3
          exact ⟨y, h4, fun w => by simp [execOp, resolve, invoke, builtin, h3', Builtin.min_, h5 w]⟩
        · rename_i x r
          obtain ⟨u, l', h1, h2, h3⟩ := hx
          obtain ⟨y, h4, h5⟩ := minmax_sound (P := P) max2_sound h h1 h2
          have h3' : args.map ev = (u :: l').toArray := by apply Array.ext'; simpa using h3
          exact ⟨y, h4, fun w => by simp [execOp, resolve, invoke, builtin, h3', Builtin.max_, h5 w]⟩
        · cases h
end
end Go.Abs
