/-
  Effects, and every operation.
-/
import Derived.Test.YtddehkbgfkeahaaAbsZ
import Derived.Orders
namespace Go.Abs
open Go

section
variable {P : Program} {E : Env} {ρ : Pl} {fr : T AV} {ev : Operand → Value}

/-- what is asked of the calls: each does in the model what it does here -/
def CallsOk (P : Program) (call : CallF) : Prop :=
  ∀ (f : FuncId) (args : List AV) (h : H) (v : AV) (h' : H), call f args h = some (v, h') →
    (∀ (as : Array Value) (w : World), (callFunc f as).run P w = .ok (.enter f as) w) ∧
    ∀ (ρ : Pl) (w : World) (as : List Value), R ρ h w → VX ρ args as →
      Calls P f as.toArray w fun e w' => ∃ ρ' u, e = .returned u ∧ VR ρ' v u ∧ Post ρ h w ρ' h' w'

theorem zeroCells_sound {te : TI} {t : TypeId} {i : TypeInfo} {z : Value} {d : TypeDesc} (hT : TIok P t te i z d) (n : Nat) :
    VL ρ (List.replicate n te.zero).flatten (Builtin.zeroCells z.cells n).toList := by
  have hg := Grid.zero (hT.zcells ρ) hT.zlen n
  have hzs : z.cells.size = te.size := by have := (hT.zcells ρ).length; rw [hT.zlen] at this; simpa using this
  have hC : Builtin.zeroCells z.cells n = (Array.range (n * te.size)).map (z.cells[· % z.cells.size]!) := by simp [Builtin.zeroCells, hzs]
  rw [hC]
  obtain ⟨f1, f2⟩ := flatten_get te.size _ hg.wide
  refine VL.mk (by rw [f1, ← hg.count]; simp) fun k x v hx hv => ?_
  obtain ⟨r, e1, e2⟩ := f2 k x hx
  obtain ⟨u, e3, e4⟩ := hg.cell _ _ _ _ e1 e2
  have : k / te.size * te.size + k % te.size = k := by rw [Nat.mul_comm]; exact Nat.div_add_mod k te.size
  rw [this] at e4
  rw [Array.getElem?_toList] at hv
  rw [hv] at e4; cases e4; exact e3

theorem run_copy {w w' : World} {ts : Array TypeId} {t ty e : TypeId} {size n dLen c : Nat} {a : Addr} {q : Value} {us : List Value} (hat : ts[0]? = some t) (htd : P.underlying t = some (.slice e)) (hs : (sizeOf e).run P w = .ok size w)
    (hl : (Builtin.lenOf q).run P w = .ok n w) (hf : (Builtin.firstCells size (Nat.min n dLen) q).run P w = .ok us.toArray w) (hst : (storeCells a us).run P w = .ok () w') :
    (Builtin.copy_ ts ty #[.slice (some a) dLen c, q]).run P w = .ok (.int .i64 (Nat.min n dLen : Nat)) w' := by
  unfold Builtin.copy_
  simp only [List.getElem?_toArray, List.getElem?_cons_zero, List.getElem?_cons_succ, hat, run_underlying htd, Sem.run_bind, Result.andThen_ok, hl, hs, hf, hst, goInt, Sem.run_pure]

theorem run_clear {w w' : World} {ts : Array TypeId} {t ty e : TypeId} {te : TI} {i : TypeInfo} {z : Value} {d : TypeDesc} {n c : Nat} {a : Addr} (hat : ts[0]? = some t) (htd : P.underlying t = some (.slice e)) (hT : TIok P e te i z d)
    (hst : (storeCells a (Builtin.zeroCells z.cells (n + 1)).toList).run P w = .ok () w') :
    (Builtin.clear_ ts ty #[.slice (some a) (n + 1) c]).run P w = .ok (.tuple #[]) w' := by
  simp [Builtin.clear_, hat, run_underlying htd, hT.run_zero w, hst]
theorem run_clear0 {w : World} {ts : Array TypeId} {t ty e : TypeId} {c : Nat} {a : Option Addr} (hat : ts[0]? = some t) (htd : P.underlying t = some (.slice e)) :
    (Builtin.clear_ ts ty #[.slice a 0 c]).run P w = .ok (.tuple #[]) w := by
  cases a <;> simp [Builtin.clear_, hat, run_underlying htd]

theorem eff_sound (hE : EnvOk P E) {call : CallF} (hcall : CallsOk P call) {h h' : H} {w : World} (hr : R ρ h w) {o : Oper} {v : AV} {a : Act} (he : effA E call fr h o.op = some (v, h')) (hk : Knows ρ fr a.eval o.op.operands)
    {K : Act → World → Prop} {Q : Exit → Act → World → Prop} (hK : ∀ ρ' u w', VR ρ' v u → Post ρ h w ρ' h' w' → K (a.put o.dst u) w') : o.wp P a w K Q := by
  unfold Oper.wp
  obtain ⟨dst, op, type, pos, after, guard⟩ := o
  cases op <;> simp only [effA] at he <;> try (cases he; done)
  case store t ax x =>
    split at he
    · rename_i ti b o y hti ha hx
      split at he
      · rename_i cs hcs
        split at he
        · rename_i h2 hst
          cases he
          obtain ⟨i, z, d, hT⟩ := hE.tt _ _ hti
          obtain ⟨l, hl, hav⟩ := hk ax (by simp [Op.operands]) _ ha
          obtain ⟨q1, q2, q3⟩ := cellsN_sound (hk x (by simp [Op.operands]) _ hx) hcs
          obtain ⟨k1, k2⟩ := store_sound (P := P) hr hst hl q1
          have hrun : (execOp a.eval ⟨dst, .store t ax x, type, pos, after, guard⟩).run P w = .ok .skip (setCells w l.blk (l.off + o) (a.eval x).cells.toList) := by
            have hne : ¬ ((a.eval x).cells.size ≠ ti.size) := by simp [q3]
            simp [execOp, Instr.storeAt, Instr.sureAddr, hav, storeVar, hT.run_size w, hne, k1]
          rw [hrun]
          exact hK ρ undef _ ⟨[], rfl, rfl⟩ k2
        · cases he
      · cases he
    · cases he
  case makeMap t r =>
    split at he
    · rename_i ti hti
      split at he
      · rename_i kt et hke
        cases he
        obtain ⟨k1, k2⟩ := map_new (P := P) hr t
        have hrun : (execOp a.eval ⟨dst, .makeMap t none, type, pos, after, guard⟩).run P w = .ok (.value (.map (some w.heap.size))) (w.alloc (.map #[] 0)) := by
          simp [execOp, k1]
        rw [hrun]
        exact hK _ _ _ ⟨⟨w.heap.size, 0, 0, 0⟩, by simp [Pl.add], rfl⟩ k2
      · cases he
    · cases he
  case mapUpdate t m k x =>
    split at he
    · rename_i ti b key y hti hm hkx hx
      split at he
      · rename_i kt et hke
        split at he
        · rename_i tk es htk hget
          split at he
          · rename_i es' hki hnt hu
            cases he
            obtain ⟨i, z, d, hT⟩ := hE.tt _ _ hti
            obtain ⟨ik, zk, dk, hKt⟩ := hE.tt _ _ htk
            have hkk := hT.k
            rw [hke] at hkk
            have hd := tkOf_map hkk
            subst hd
            rw [hKt.k] at hki
            obtain ⟨l, hl, hp⟩ := hk m (by simp [Op.operands]) _ hm
            have h1 := key_v1 hki (hk k (by simp [Op.operands]) _ hkx)
            have h2 := vr_v1 hnt (hk x (by simp [Op.operands]) _ hx)
            obtain ⟨w', q1, q2⟩ := upd_sound (P := P) hr hl hget hT.und hKt.und hki h1 h2 hu
            have hrun : (execOp a.eval ⟨dst, .mapUpdate t m k x, type, pos, after, guard⟩).run P w = .ok .skip w' := by
              simp [execOp, hp, q1]
            rw [hrun]
            exact hK ρ undef _ ⟨[], rfl, rfl⟩ q2
          · cases he
        · cases he
      · cases he
    · cases he
  case call c =>
    obtain ⟨callee, args, argTypes⟩ := c
    cases callee with
    | invoke r m => cases he
    | value f =>
      simp only at he
      split at he
      · rename_i g cap vs hf hvs
        have hx := opnds_sound (ρ := ρ) (ev := a.eval) hvs fun x hx v hv => hk x (by simp [Op.operands, Call.operands]; right; simpa using hx) v hv
        obtain ⟨lc, hlc, hfv⟩ := hk f (by simp [Op.operands, Call.operands]) _ hf
        obtain ⟨k1, k2⟩ := hcall _ _ _ _ _ he
        have hrun : (execOp a.eval ⟨dst, .call ⟨.value f, args, argTypes⟩, type, pos, after, guard⟩).run P w = .ok (.enter g (args.map a.eval ++ lc.toArray)) w := by
          simp [execOp, resolve, Deferred.ofValue, hfv, invoke, k1]
        rw [hrun]
        have harr : args.map a.eval ++ lc.toArray = (args.toList.map a.eval ++ lc).toArray := by apply Array.ext'; simp
        rw [harr]
        refine (k2 ρ w _ hr (hx.append (VX.of_VL hlc))).mono fun e w' hh => ?_
        obtain ⟨ρ', u, rfl, h1, h2⟩ := hh
        exact hK ρ' u w' h1 h2
      · cases he
    | builtin b =>
      simp only at he
      split at he
      · rename_i vs te hvs hte
        have hx := opnds_sound (ρ := ρ) (ev := a.eval) hvs fun x hx v hv => hk x (by simp [Op.operands, Call.operands]; simpa using hx) v hv
        -- the slice's type
        obtain ⟨t, ts, e, hts, htd, i, z, d, hT⟩ : ∃ t ts e, argTypes.toList = t :: ts ∧ P.underlying t = some (.slice e) ∧ ∃ i z d, TIok P e te i z d := by
          unfold sliceElem at hte
          split at hte
          · rename_i t ts hts
            split at hte
            · rename_i ti hti
              split at hte
              · rename_i e hke
                obtain ⟨i, z, d, hT⟩ := hE.tt _ _ hti
                have hkk := hT.k
                rw [hke] at hkk
                have := tkOf_slice hkk; subst this
                exact ⟨t, ts, e, hts, hT.und, hE.tt _ _ hte⟩
              · cases hte
            · cases hte
          · cases hte
        have hat : argTypes[0]? = some t := by rw [← Array.getElem?_toList, hts]; rfl
        split at he
        · -- append
          rename_i s x
          obtain ⟨p, l1, hp, ⟨q, l2, hq, hl2, hl1⟩, hl0⟩ := hx
          simp only [VX] at hl2; subst hl2 hl1
          have hargs : args.map a.eval = #[p, q] := by apply Array.ext'; simpa using hl0
          split at he
          · rename_i hsrc
            obtain ⟨t2, hat2, ht2⟩ : ∃ t2, argTypes[1]? = some t2 ∧ srcType P t2 := by
              unfold srcOk at hsrc
              split at hsrc
              · rename_i t1 t2 ts2 hts2
                split at hsrc
                · rename_i ti2 hti2
                  obtain ⟨i2, z2, d2, hT2⟩ := hE.tt _ _ hti2
                  have hkk := hT2.k
                  have hat2 : argTypes[1]? = some t2 := by rw [← Array.getElem?_toList, hts2]; rfl
                  split at hsrc
                  · rename_i e2 hke
                    rw [hke] at hkk
                    have := tkOf_slice hkk; subst this
                    exact ⟨t2, hat2, .inl ⟨_, hT2.und⟩⟩
                  · rename_i hke
                    rw [hke] at hkk
                    have := tkOf_str hkk; subst this
                    exact ⟨t2, hat2, .inr hT2.und⟩
                  · cases hsrc
                · cases hsrc
              · cases hsrc
            obtain ⟨ρ', u, w', h1, h2, h3⟩ := append_sound (P := P) (ty := type) hr hat hat2 htd ht2 hT he hp hq
            have hrun : (execOp a.eval ⟨dst, .call ⟨.builtin .append, args, argTypes⟩, type, pos, after, guard⟩).run P w = .ok (.value u) w' := by
              simp [execOp, resolve, invoke, builtin, hargs, h3]
            rw [hrun]
            exact hK ρ' u w' h1 h2
          · cases he
        · -- copy onto nil
          rename_i x
          obtain ⟨p, l1, hp, ⟨q, l2, hq, hl2, hl1⟩, hl0⟩ := hx
          simp only [VX] at hl2; subst hl2 hl1
          have hargs : args.map a.eval = #[p, q] := by apply Array.ext'; simpa using hl0
          split at he
          · rename_i rows hrows
            cases he
            have hp' : p = .slice none 0 0 := hp
            subst hp'
            have hel := rowsOf_sound (P := P) hr hrows hq
            obtain ⟨us, e1, e2, e3⟩ := hel.cells
            have hf := e3 w 0 rfl (Nat.zero_le _)
            simp only [Nat.zero_mul, List.take_zero] at hf
            have hrun : (execOp a.eval ⟨dst, .call ⟨.builtin .copy, args, argTypes⟩, type, pos, after, guard⟩).run P w = .ok (.value (.int .i64 0)) w := by
              simp [execOp, resolve, invoke, builtin, hargs, Builtin.copy_, hat, run_underlying htd, hel.len, hT.run_size w, hf, goInt]
            rw [hrun]
            exact hK ρ _ w rfl (Post.refl hr)
          · cases he
        · -- copy
          rename_i dd x hnn
          obtain ⟨p, l1, hp, ⟨q, l2, hq, hl2, hl1⟩, hl0⟩ := hx
          simp only [VX] at hl2; subst hl2 hl1
          have hargs : args.map a.eval = #[p, q] := by apply Array.ext'; simpa using hl0
          split at he
          · rename_i sz new b i2 len hsz hnew hslr
            split at he
            · rename_i h2 hwr
              cases he
              have hel := rowsOf_sound (P := P) hr hnew hq
              obtain ⟨us, e1, e2, e3⟩ := hel.cells
              obtain ⟨l, hl, hcase⟩ := slRow_sound hslr hp
              have hmin : Nat.min new.length len ≤ new.length := Nat.min_le_left _ _
              have hf := e3 w (Nat.min new.length len) rfl hmin
              have hwn : ∀ (k : Nat) (r : List AV), (new.take len)[k]? = some r → r.length = te.size := fun k r hk' => by
                rw [List.getElem?_take] at hk'
                split at hk'
                · exact hel.wide k r hk'
                · cases hk'
              have hvl : VL ρ (new.take len).flatten (us.take (Nat.min new.length len * te.size)) := by
                have : (new.take len).flatten = new.flatten.take (Nat.min new.length len * te.size) := by
                  apply List.ext_getElem?
                  intro k
                  rw [List.getElem?_take]
                  obtain ⟨f1, f2⟩ := flatten_get te.size new hel.wide
                  obtain ⟨g1, g2⟩ := flatten_get te.size (new.take len) hwn
                  have hlen : (new.take len).length = Nat.min new.length len := by rw [List.length_take]; exact Nat.min_comm _ _
                  rw [hlen] at g1
                  split
                  · rename_i hlt
                    cases hk' : (new.take len).flatten[k]? with
                    | none => rw [List.getElem?_eq_none_iff] at hk'; omega
                    | some y =>
                      obtain ⟨r, m1, m2⟩ := g2 k y hk'
                      rw [List.getElem?_take] at m1
                      split at m1
                      · have := flatten_get' te.size new hel.wide _ _ _ _ m1 m2
                        have e5 : k / te.size * te.size + k % te.size = k := by rw [Nat.mul_comm]; exact Nat.div_add_mod k te.size
                        rw [e5] at this; exact this.symm
                      · cases m1
                  · rw [List.getElem?_eq_none_iff]; omega
                rw [this]; exact e1.take _
              obtain ⟨k1, k2⟩ := writeRows_sound (P := P) hr hwr hl hwn hvl
              rw [lenN_eq] at hK
              rcases hcase with ⟨c, rfl, _⟩ | ⟨_, e4, _, _, _, y, rfl⟩
              · have hrun : (execOp a.eval ⟨dst, .call ⟨.builtin .copy, args, argTypes⟩, type, pos, after, guard⟩).run P w = .ok (.value (.int .i64 (min new.length len : Nat))) (setCells w l.blk (l.off + i2 * te.size) (us.take (Nat.min new.length len * te.size))) := by
                  have := run_copy (ty := type) (c := c) hat htd (hT.run_size w) hel.len hf k1
                  simp only [execOp, resolve, invoke, builtin, hargs, Sem.run_bind, Sem.run_pure, Result.andThen_ok, this]
                rw [hrun]
                exact hK ρ _ _ rfl k2
              · subst e4
                have hm0 : Nat.min new.length 0 = 0 := Nat.min_zero _
                rw [hm0, Nat.zero_mul, List.take_zero] at hf k2
                have hrun : (execOp a.eval ⟨dst, .call ⟨.builtin .copy, args, argTypes⟩, type, pos, after, guard⟩).run P w = .ok (.value (.int .i64 (min new.length 0 : Nat))) w := by
                  have := run_copy (P := P) (w := w) (w' := w) (ty := type) (c := 0) (dLen := 0) (a := ⟨l.blk, y, none⟩) (us := []) hat htd (hT.run_size w) hel.len (by rw [hm0]; exact hf) rfl
                  simp only [execOp, resolve, invoke, builtin, hargs, Sem.run_bind, Sem.run_pure, Result.andThen_ok, this]
                rw [hrun]
                exact hK ρ _ _ rfl k2
            · cases he
          · cases he
        · -- clear nil
          obtain ⟨p, l1, hp, hl1, hl0⟩ := hx
          simp only [VX] at hl1; subst hl1
          have hargs : args.map a.eval = #[p] := by apply Array.ext'; simpa using hl0
          cases he
          have hp' : p = .slice none 0 0 := hp
          subst hp'
          have hrun : (execOp a.eval ⟨dst, .call ⟨.builtin .clear, args, argTypes⟩, type, pos, after, guard⟩).run P w = .ok (.value (.tuple #[])) w := by
            simp [execOp, resolve, invoke, builtin, hargs, Builtin.clear_, hat, run_underlying htd]
          rw [hrun]
          exact hK ρ _ w ⟨[], rfl, rfl⟩ (Post.refl hr)
        · -- clear
          rename_i dd hnn
          obtain ⟨p, l1, hp, hl1, hl0⟩ := hx
          simp only [VX] at hl1; subst hl1
          have hargs : args.map a.eval = #[p] := by apply Array.ext'; simpa using hl0
          split at he
          · rename_i sz b i2 len hsz hslr
            split at he
            · rename_i h2 hwr
              cases he
              obtain ⟨l, hl, hcase⟩ := slRow_sound hslr hp
              have hwn : ∀ (k : Nat) (r : List AV), (List.replicate len te.zero)[k]? = some r → r.length = te.size := fun k r hk' => by
                rw [List.getElem?_replicate] at hk'
                split at hk' <;> cases hk'
                exact hT.zlen
              obtain ⟨k1, k2⟩ := writeRows_sound (P := P) hr hwr hl hwn (zeroCells_sound hT len)
              have hgo : ∀ w', (Builtin.clear_ argTypes type #[p]).run P w = .ok (.tuple #[]) w' → (execOp a.eval ⟨dst, .call ⟨.builtin .clear, args, argTypes⟩, type, pos, after, guard⟩).run P w = .ok (.value (.tuple #[])) w' := fun w' hh => by
                simp only [execOp, resolve, invoke, builtin, hargs, Sem.run_bind, Sem.run_pure, Result.andThen_ok, hh]
              cases len with
              | zero =>
                have hpz : ∃ aa c, p = .slice aa 0 c := by
                  rcases hcase with ⟨c, rfl, _⟩ | ⟨_, _, _, _, _, y, rfl⟩ <;> exact ⟨_, _, rfl⟩
                obtain ⟨aa, c, rfl⟩ := hpz
                rw [hgo w (run_clear0 hat htd)]
                have hz : (Builtin.zeroCells z.cells 0).toList = [] := by simp [Builtin.zeroCells]
                rw [hz] at k2
                exact hK ρ _ _ ⟨[], rfl, rfl⟩ k2
              | succ n =>
                rcases hcase with ⟨c, rfl, _⟩ | ⟨_, e4, _⟩
                · rw [hgo _ (run_clear hat htd hT k1)]
                  exact hK ρ _ _ ⟨[], rfl, rfl⟩ k2
                · cases e4
            · cases he
          · cases he
        · cases he
      · -- a key is taken out
        unfold delM at he
        split at he
        · rename_i mb key t tl hvs hts
          split at he
          · rename_i ti hti
            split at he
            · rename_i kt et hke
              split at he
              · rename_i tk es htk hget
                split at he
                · rename_i es' hki hu
                  cases he
                  have hx := opnds_sound (ρ := ρ) (ev := a.eval) hvs fun x hx v hv => hk x (by simp [Op.operands, Call.operands]; simpa using hx) v hv
                  obtain ⟨i, z, d, hT⟩ := hE.tt _ _ hti
                  obtain ⟨ik, zk, dk, hKt⟩ := hE.tt _ _ htk
                  have hkk := hT.k
                  rw [hke] at hkk
                  have hd := tkOf_map hkk
                  subst hd
                  rw [hKt.k] at hki
                  have hat : argTypes[0]? = some t := by rw [← Array.getElem?_toList, hts]; rfl
                  obtain ⟨p, l1, hp, ⟨q, l2, hq, hl2, hl1⟩, hl0⟩ := hx
                  simp only [VX] at hl2; subst hl2 hl1
                  have hargs : args.map a.eval = #[p, q] := by apply Array.ext'; simpa using hl0
                  obtain ⟨l, hl, hpv⟩ := hp
                  subst hpv
                  obtain ⟨w', q1, q2⟩ := del_sound (P := P) hr hl hget hT.und hKt.und hki (key_v1 hki hq) hu hat type
                  have hrun : (execOp a.eval ⟨dst, .call ⟨.builtin .delete, args, argTypes⟩, type, pos, after, guard⟩).run P w = .ok (.value (.tuple #[])) w' := by
                    simp [execOp, resolve, invoke, builtin, hargs, q1]
                  rw [hrun]
                  exact hK ρ _ w' ⟨[], rfl, rfl⟩ q2
                · cases he
              · cases he
            · cases he
          · cases he
        · cases he

/-- any operation -/
theorem exec_sound (hE : EnvOk P E) {call : CallF} (hcall : CallsOk P call) {h h' : H} {w : World} (hr : R ρ h w) {o : Oper} {v : AV} {a : Act} (he : execA E call fr h o.op = some (v, h')) (hk : Knows ρ fr a.eval o.op.operands)
    {K : Act → World → Prop} {Q : Exit → Act → World → Prop} (hK : ∀ ρ' u w', VR ρ' v u → Post ρ h w ρ' h' w' → K (a.put o.dst u) w') : o.wp P a w K Q := by
  unfold execA at he
  split at he
  · split at he
    · rename_i v' hv
      cases he
      obtain ⟨u, h1, h2⟩ := pure_sound hE hv hk
      unfold Oper.wp
      rw [h2 w]
      exact hK ρ u w h1 (Post.refl hr)
    · cases he
  · split at he
    · rename_i v' hv
      cases he
      obtain ⟨u, h1, h2⟩ := read_sound hE hr hv hk
      unfold Oper.wp
      rw [h2]
      exact hK ρ u w h1 (Post.refl hr)
    · cases he
  · split at he
    · rename_i x mk hx
      cases he
      obtain ⟨u, C, e, l, h1, h2, h3, h4, h5⟩ := alloc_sound hE hx hk w
      obtain ⟨h6, h7⟩ := h5 h.n (hr.fresh h.n (Nat.le_refl _)).2
      unfold Oper.wp
      rw [h1]
      refine hK (ρ.add h.n l) u _ h7 (Post.birth hr (fun c hc => RowKit.Below.heap_alloc w _ c hc) (by simp) (by omega) (by simp; omega) h6 h3 h4 rfl rfl rfl)
    · cases he
  · exact eff_sound hE hcall hr he hk hK
end
end Go.Abs

/-
  Frames, and regions in the text's order.
-/
namespace Go.Abs
open Go

section
variable {P : Program} {E : Env} {ρ : Pl} {fr : T AV}

/-- the slots that are told of hold what is told -/
def FR (ρ : Pl) (fr : T AV) (ts : Array Value) : Prop := ∀ t v, fr.get t = some v → ∃ u, ts[t]? = some u ∧ VR ρ v u

theorem FR.mono {ρ' : Pl} (he : Ext ρ ρ') {ts : Array Value} (h : FR ρ fr ts) : FR ρ' fr ts := fun t v ht => by
  obtain ⟨u, h1, h2⟩ := h t v ht
  exact ⟨u, h1, h2.mono he⟩

theorem FR.opnd {a : Act} (h : FR ρ fr a.tmps) {x : Operand} {v : AV} (hx : opnd fr x = some v) : VR ρ v (a.eval x) := by
  cases x with
  | tmp t =>
    obtain ⟨u, h1, h2⟩ := h t v hx
    have : a.eval (.tmp t) = u := by simp [Act.eval, h1]
    rw [this]; exact h2
  | const c => exact absV_VR ρ hx
  | global g => cases hx
  | func f => cases hx; exact ⟨[], rfl, rfl⟩

theorem FR.knows {a : Act} (h : FR ρ fr a.tmps) (xs : Array Operand) : Knows ρ fr a.eval xs := fun _ _ _ hv => h.opnd hv

theorem FR.put {a : Act} (h : FR ρ fr a.tmps) {d : Option Tmp} (hd : ∀ t, d = some t → t < a.tmps.size) {v : AV} {u : Value} (hv : VR ρ v u) : FR ρ (putD fr d v) (a.put d u).tmps := by
  cases d with
  | none => exact h
  | some d =>
    intro t x ht
    simp only [putD, T.get_put] at ht
    simp only [Act.put]
    split at ht
    · rename_i e; subst e
      cases ht
      exact ⟨u, by simp [hd t rfl], hv⟩
    · rename_i e
      obtain ⟨y, h1, h2⟩ := h t x ht
      exact ⟨y, by rw [Array.getElem?_setIfInBounds_ne (fun e' => e e'.symm)]; exact h1, h2⟩

theorem put_size (a : Act) (d : Option Tmp) (u : Value) : (a.put d u).tmps.size = a.tmps.size := by
  cases d <;> simp [Act.put]
theorem put_defers' (a : Act) (d : Option Tmp) (u : Value) : (a.put d u).defers = a.defers := by
  cases d <;> rfl

theorem wanted_sound {ops : Array Oper} {o : Oper} {b : Bool} (h : wantedA ops.toList fr o = some b) {ts : Array Value} (hf : ∀ j want, o.guard = some (j, want) → ∀ g d x, ops[j]? = some g → g.dst = some d → fr.get d = some x → ∃ u, ts[d]? = some u ∧ VR ρ x u) :
    Region.wanted o (yielded ops ts) = b := by
  unfold wantedA at h
  unfold Region.wanted
  split at h
  · rename_i hg; cases h; simp [hg]
  · rename_i j want hg
    rw [nth_eq] at h
    split at h
    · rename_i g hj
      have hj' : ops[j]? = some g := by simpa using hj
      split at h
      · rename_i d hd
        split at h
        · rename_i x hx
          cases h
          obtain ⟨u, h1, h2⟩ := hf j want hg g d _ hj' hd hx
          have := VR.bool h2
          subst this
          simp [hg, yielded, hj', hd, h1]
        · rename_i hx
          cases h
          obtain ⟨u, h1, us, h2, h3⟩ := hf j want hg g d _ hj' hd hx
          have : us = [] := h2
          subst this h3
          simp [hg, yielded, hj', hd, h1]
        · cases h
      · cases h
    · cases h

theorem FR.bool {ts : Array Value} (h : FR ρ fr ts) {d : Tmp} {x : Bool} (hx : fr.get d = some (.bool x)) : ts[d]? = some (.bool x) := by
  obtain ⟨u, h1, h2⟩ := h d _ hx
  rw [VR.bool h2] at h1; exact h1

theorem opsOk_mem {n : Nat} : ∀ {l : List Oper}, opsOk n l = true → ∀ o ∈ l, ∀ t, o.dst = some t → t < n
  | [], _, o, ho, _, _ => by simp at ho
  | x :: r, h, o, ho, t, ht => by
    simp only [opsOk, Bool.and_eq_true] at h
    rcases List.mem_cons.1 ho with rfl | hm
    · have := h.1; rw [ht] at this; simpa [Nat.blt_eq] using this
    · exact opsOk_mem h.2 o hm t ht

theorem runOps_cons (call : CallF) (ops : List Oper) (o : Oper) (r : List Oper) (fr : T AV) (h : H) : runOps E call ops (o :: r) fr h = match wantedA ops fr o with
    | some true => match execA E call fr h o.op with
      | some (v, h) => runOps E call ops r (putD fr o.dst v) h
      | none => none
    | some false => runOps E call ops r (putD fr o.dst (.tup [])) h
    | none => none := rfl

theorem runOps_sound (hE : EnvOk P E) {call : CallF} (hcall : CallsOk P call) {ops : Array Oper} {N : Nat} {Q : Exit → Act → World → Prop} {fr' : T AV} {h' : H} (hok : opsOk N ops.toList = true) :
    ∀ (l : List Oper) (k : Nat), ops.toList.drop k = l → ∀ (fr : T AV) (h : H) (ρ : Pl) (a : Act) (w : World), runOps E call ops.toList l fr h = some (fr', h') → FR ρ fr a.tmps → R ρ h w → a.tmps.size = N →
      (∀ ρ' a' w', FR ρ' fr' a'.tmps → a'.tmps.size = N → a'.defers = a.defers → Post ρ h w ρ' h' w' → Q .normal a' w') → wpOps P ops Q (List.range' k l.length) a w := by
  intro l
  induction l with
  | nil =>
    intro k _ fr h ρ a w hrun hf hr hN hQ
    cases hrun
    exact hQ ρ a w hf hN rfl (Post.refl hr)
  | cons o r ih =>
    intro k hk fr h ρ a w hrun hf hr hN hQ
    have hko : ops[k]? = some o := by
      have := congrArg (·[0]?) hk
      simpa using this
    have hkr : ops.toList.drop (k + 1) = r := by
      rw [← List.drop_drop, hk]; rfl
    have hmem : o ∈ ops.toList := by
      rw [List.mem_iff_getElem?]; exact ⟨k, by simpa using hko⟩
    have hdst := opsOk_mem hok o hmem
    rw [runOps_cons] at hrun
    rw [List.length_cons, List.range'_succ]
    simp only [wpOps, hko]
    split at hrun
    · rename_i hw
      have hwt := wanted_sound (ρ := ρ) hw (ts := a.tmps) fun j want _ g d x _ _ hx => hf d x hx
      rw [hwt]
      simp only [if_true]
      left
      split at hrun
      · rename_i v h1 hex
        refine exec_sound hE hcall hr hex (hf.knows _) fun ρ' u w' hv hp => ?_
        refine ih (k + 1) hkr _ _ ρ' _ w' hrun ((hf.mono hp.ext).put (fun t ht => by rw [hN]; exact hdst t ht) hv) hp.rel (by rw [put_size, hN]) fun ρ2 a2 w2 q1 q2 q3 q4 => ?_
        exact hQ ρ2 a2 w2 q1 q2 (by rw [q3, put_defers']) (hp.trans q4)
      · cases hrun
    · rename_i hw
      have hwt := wanted_sound (ρ := ρ) hw (ts := a.tmps) fun j want _ g d x _ _ hx => hf d x hx
      rw [hwt]
      simp only [Bool.false_eq_true, if_false]
      refine ih (k + 1) hkr _ _ ρ _ w hrun (hf.put (fun t ht => by rw [hN]; exact hdst t ht) (v := .tup []) (u := undef) ⟨[], rfl, rfl⟩) hr (by rw [put_size, hN]) fun ρ2 a2 w2 q1 q2 q3 q4 => ?_
      exact hQ ρ2 a2 w2 q1 q2 (by rw [q3, put_defers']) q4
    · cases hrun
end
end Go.Abs
