/-
  The pure operations.
-/
import Derived.Test.YtdncenepmkbolaaAbsW
import Derived.Laws.StructEq
namespace Go.Abs
open Go

section
variable {P : Program} {E : Env} {ρ : Pl} {fr : T AV} {ev : Operand → Value}

/-- what is told of an operand is so -/
def Knows (ρ : Pl) (fr : T AV) (ev : Operand → Value) (xs : Array Operand) : Prop := ∀ x ∈ xs, ∀ v, opnd fr x = some v → VR ρ v (ev x)

theorem eqGuard_plain (op : BinOp) (t : TypeId) (x y : Operand) (a b : Value) (w : World) (h1 : ¬ (a = .nilIface ∧ b = .nilIface)) (h2 : ¬ (∃ m n, a = .agg m ∧ b = .agg n)) :
    (eqGuard op t x y a b).run P w = .ok () w := by
  unfold eqGuard
  split
  all_goals first
    | (simp; done)
    | (simp only [Bool.not_true, Bool.false_eq_true, if_false]
       split
       · exact absurd ⟨rfl, rfl⟩ h1
       · exact absurd ⟨_, _, rfl, rfl⟩ h2
       · rfl)

theorem binInt_sound {op : BinOp} {k : IntKind} {a b : Int} {v : AV} (h : binInt op k a b = some v) (t : TypeId) :
    ∃ u, VS ρ v u ∧ ∀ w, (binOp op t (.int k a) (.int k b)).run P w = .ok u w := by
  cases op <;> simp only [binInt] at h <;> first
    | (exfalso; simp at h; done)
    | (simp only [Option.some.injEq] at h; subst h; exact ⟨_, rfl, fun w => by simp [binOp, Op.intArith, Op.intCmp, Op.intBits]⟩)
    | (split at h
       · cases h
       · rename_i hb
         simp only [Option.some.injEq] at h; subst h; exact ⟨_, rfl, fun w => by simp [binOp, Op.intDiv, hb]⟩)

theorem binStr_sound {op : BinOp} {a b : List UInt8} {v : AV} (h : binStr op a b = some v) (t : TypeId) :
    ∃ u, VS ρ v u ∧ ∀ w, (binOp op t (.string ⟨a.toArray⟩) (.string ⟨b.toArray⟩)).run P w = .ok u w := by
  cases op <;> simp only [binStr] at h <;> first
    | (exfalso; simp at h; done)
    | (simp only [Option.some.injEq] at h; subst h; exact ⟨_, rfl, fun w => by simp [binOp, Op.stringOp]⟩)
    | skip
  split at h
  · rename_i hl
    simp only [Option.some.injEq] at h; subst h
    refine ⟨_, rfl, fun w => ?_⟩
    have hsz : ∀ l : List UInt8, (⟨l.toArray⟩ : ByteArray).size = l.length := fun l => by simp [ByteArray.size]
    have : ¬ (((⟨a.toArray⟩ : ByteArray).size + (⟨b.toArray⟩ : ByteArray).size : Nat) : Int) > IntKind.i64.max := by
      rw [hsz, hsz]; simp only [IntKind.max, IntKind.signed, IntKind.bits, if_true]; omega
    simp only [binOp, Op.stringOp, this, if_false, Sem.run_pure]
    congr 2
  · cases h

theorem eqCells_len : ∀ {ks : List FK} {x y : List AV} {b : Bool}, eqCells ks x y = some b → x.length = ks.length ∧ y.length = ks.length
  | [], [], [], _, _ => ⟨rfl, rfl⟩
  | [], [], _ :: _, _, h => by simp [eqCells] at h
  | [], _ :: _, _, _, h => by simp [eqCells] at h
  | _ :: _, [], _, _, h => by simp [eqCells] at h
  | _ :: _, _ :: _, [], _, h => by simp [eqCells] at h
  | k :: ks, a :: x, c :: y, b, h => by
    simp only [eqCells] at h
    split at h
    · have := eqCells_len h; simp [this]
    · split at h
      · rename_i hh; have := eqCells_len hh; simp [this]
      · cases h
    · cases h
theorem eqCells_append : ∀ {ks ks' : List FK} {x y : List AV} {b : Bool}, eqCells (ks ++ ks') x y = some b →
    ∃ c d, eqCells ks (x.take ks.length) (y.take ks.length) = some c ∧ eqCells ks' (x.drop ks.length) (y.drop ks.length) = some d ∧ b = (c && d)
  | [], ks', x, y, b, h => ⟨true, b, by simp [eqCells], by simpa using h, by simp⟩
  | k :: ks, ks', [], _, b, h => by simp [eqCells] at h
  | k :: ks, ks', _ :: _, [], b, h => by simp [eqCells] at h
  | k :: ks, ks', a :: x, c :: y, b, h => by
    simp only [List.cons_append, eqCells] at h
    simp only [List.length_cons, List.take_succ_cons, List.drop_succ_cons, eqCells]
    split at h
    · rename_i he
      obtain ⟨c', d, h1, h2, h3⟩ := eqCells_append h
      exact ⟨c', d, by simp [h1], h2, h3⟩
    · split at h
      · rename_i z hz
        simp only [Option.some.injEq] at h; subst h
        obtain ⟨c', d, h1, h2, h3⟩ := eqCells_append hz
        exact ⟨false, d, by simp [h1], h2, by simp⟩
      · cases h
    · cases h

theorem run_part (w : World) {t : TypeId} {d : TypeDesc} (hd : P.underlying t = some d) (ha : aggOf d = false) (cs : Array Value) (o : Nat) (v : Value) (h : cs[o]? = some v) :
    (part t cs o).run P w = .ok v w := by
  have : (isAgg t).run P w = .ok false w := by cases d <;> simp_all [isAgg, underlying, aggOf]
  simp [part, this, h]
theorem run_part_agg (w : World) {t : TypeId} {d : TypeDesc} (hd : P.underlying t = some d) (ha : aggOf d = true) (cs : Array Value) (o : Nat) (i : TypeInfo) (hi : P.info? t = some i) :
    (part t cs o).run P w = .ok (.agg (cs.extract o (o + i.size))) w := by
  have : (isAgg t).run P w = .ok true w := by cases d <;> simp_all [isAgg, underlying, aggOf]
  simp [part, this, sizeOf, typeInfo, hi]

theorem fieldsOf_eq {t : TypeId} {fs : Array Field} (h : P.underlying t = some (.struct fs)) : P.fieldsOf t = fs := by
  simp [Program.fieldsOf, h]

/-- cells of flat types, held against each other by the model -/
theorem flat_sound (w : World) : ∀ (d : Nat) (t : TypeId) (ks : List FK), flatOf P d t = some ks → ∀ (e : Nat), d ≤ e → ∀ (XS YS : Array Value) (o : Nat) (x y : List AV) (b : Bool),
    VL ρ x ((XS.toList.drop o).take ks.length) → VL ρ y ((YS.toList.drop o).take ks.length) → eqCells ks x y = some b →
    ∃ u v, (part t XS o).run P w = .ok u w ∧ (part t YS o).run P w = .ok v w ∧ (Op.equalIn e t u v).run P w = .ok b w := by
  intro d
  induction d with
  | zero => intro t ks h; cases h
  | succ d ih =>
    intro t ks h e he XS YS o x y b hx hy hb
    obtain ⟨e, rfl⟩ : ∃ e', e = e' + 1 := ⟨e - 1, by omega⟩
    obtain ⟨lx, ly⟩ := eqCells_len hb
    have hX := hx.length
    have hY := hy.length
    simp only [flatOf] at h
    have leaf : ∀ (k : FK) (dd : TypeDesc), ks = [k] → P.underlying t = some dd → aggOf dd = false →
        (∀ (p q : AV) (u v : Value) (c : Bool), eqCell k p q = some c → VS ρ p u → VS ρ q v → (Op.equalIn (e + 1) t u v).run P w = .ok c w) →
        ∃ u v, (part t XS o).run P w = .ok u w ∧ (part t YS o).run P w = .ok v w ∧ (Op.equalIn (e + 1) t u v).run P w = .ok b w := by
      intro k dd hk hd ha hq
      subst hk
      match x, y, lx, ly with
      | [p], [q], _, _ =>
        simp only [eqCells] at hb
        obtain ⟨u, l1, h1, h2, h3⟩ := hx
        obtain ⟨v, l2, h4, h5, h6⟩ := hy
        have hu : XS[o]? = some u := by
          have := congrArg (·[0]?) h3
          simpa using this
        have hv : YS[o]? = some v := by
          have := congrArg (·[0]?) h6
          simpa using this
        refine ⟨u, v, run_part w hd ha _ _ _ hu, run_part w hd ha _ _ _ hv, ?_⟩
        have hc : eqCell k p q = some b := by
          cases hcc : eqCell k p q with
          | none => simp [hcc] at hb
          | some c => cases c <;> simp [hcc] at hb <;> rw [← hb]
        exact hq p q u v b hc h1 h4
    split at h
    · rename_i hd
      split at h
      · cases h
        refine leaf .b .bool rfl hd rfl fun p q u v c hc h1 h2 => ?_
        cases p <;> cases q <;> simp only [eqCell] at hc <;> first
          | (simp only [Option.some.injEq] at hc; subst hc; simp only [VS] at h1 h2; subst h1 h2; exact run_equalIn_bool' w e t _ _ hd)
          | cases hc
      · cases h
    · rename_i kk hd
      split at h
      · cases h
        refine leaf .i (.int kk) rfl hd rfl fun p q u v c hc h1 h2 => ?_
        cases p <;> cases q <;> simp only [eqCell] at hc <;> first
          | (split at hc
             · rename_i e1; subst e1
               simp only [Option.some.injEq] at hc; subst hc; simp only [VS] at h1 h2; subst h1 h2; exact run_equalIn_int w e t _ _ _ _ hd
             · cases hc)
          | cases hc
      · cases h
    · rename_i hd
      split at h
      · cases h
        refine leaf .s .string rfl hd rfl fun p q u v c hc h1 h2 => ?_
        cases p <;> cases q <;> simp only [eqCell] at hc <;> first
          | (simp only [Option.some.injEq] at hc; subst hc; simp only [VS] at h1 h2; subst h1 h2; rw [run_equalIn_string w e t _ _ hd]; simp)
          | cases hc
      · cases h
    · rename_i fs hd
      split at h
      · cases h
      · rename_i hst
        split at h
        · rename_i ks' hks
          split at h
          · rename_i hsz
            cases h
            have hsz' : P.cellsOf t = ks.length := by simpa using hsz
            obtain ⟨i, hi, his⟩ : ∃ i, P.info? t = some i ∧ i.size = ks.length := by
              unfold Program.cellsOf at hsz'
              cases hi : P.info? t with
              | none => unfold Program.underlying at hd; rw [hi] at hd; cases hd
              | some i => exact ⟨i, rfl, by rw [hi] at hsz'; simpa using hsz'⟩
            refine ⟨_, _, run_part_agg w hd rfl _ _ i hi, run_part_agg w hd rfl _ _ i hi, ?_⟩
            rw [run_equalIn_struct w e t _ _ (by rw [fieldsOf_eq hd]; exact hd) hst, fieldsOf_eq hd, his]
            have hXs : (XS.extract o (o + ks.length)).toList = (XS.toList.drop o).take ks.length := by simp [List.take_drop]
            have hYs : (YS.extract o (o + ks.length)).toList = (YS.toList.drop o).take ks.length := by simp [List.take_drop]
            generalize hXX : XS.extract o (o + ks.length) = XX at *
            generalize hYY : YS.extract o (o + ks.length) = YY at *
            rw [← hXs] at hx; rw [← hYs] at hy
            clear hX hY hXs hYs hXX hYY leaf
            have key : ∀ (fl : List Field) (q : Nat) (ks : List FK) (x y : List AV) (b : Bool), flatOf.flds (flatOf P d) fl q = some ks → VL ρ x (XX.toList.drop q) → VL ρ y (YY.toList.drop q) →
                eqCells ks x y = some b → (Op.eqFields e XX YY fl).run P w = .ok b w := by
              intro fl
              induction fl with
              | nil =>
                intro q ks x y b h1 h2 h3 h4
                simp only [flatOf.flds, Option.some.injEq] at h1
                subst h1
                cases x <;> cases y <;> simp only [eqCells] at h4 <;> cases h4
                rfl
              | cons f fl ihf =>
                intro q ks x y b h1 h2 h3 h4
                simp only [flatOf.flds] at h1
                split at h1
                · rename_i k hn ho hf
                  split at h1
                  · rename_i l hl
                    simp only [Option.some.injEq] at h1
                    subst h1
                    obtain ⟨c, dd, e1, e2, e3⟩ := eqCells_append h4
                    have ho' : f.offset = q := by simpa using ho
                    obtain ⟨u, v, p1, p2, p3⟩ := ih f.type k hf e (by omega) XX YY f.offset _ _ c (by rw [ho']; exact h2.take _) (by rw [ho']; exact h3.take _) e1
                    have hn' : f.name ≠ "_" := by simpa using hn
                    simp only [Op.eqFields, hn', ne_eq, not_false_eq_true, if_true, Sem.run_bind, p1, p2, p3, Result.andThen_ok]
                    cases c with
                    | false => subst e3; simp
                    | true =>
                      subst e3
                      simp only [Bool.not_true, Bool.false_eq_true, if_false]
                      exact ihf (q + k.length) l _ _ _ hl (by rw [← List.drop_drop]; exact h2.drop _) (by rw [← List.drop_drop]; exact h3.drop _) e2
                  · cases h1
                · cases h1
            exact key fs.toList 0 ks x y b hks (by simpa using hx) (by simpa using hy) hb
          · cases h
        · cases h
    · cases h

end
end Go.Abs
