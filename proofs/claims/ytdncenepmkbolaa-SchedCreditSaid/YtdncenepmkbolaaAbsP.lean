/-
  The pure operations, all of them.
-/
import Derived.Test.YtdncenepmkbolaaAbsO
namespace Go.Abs
open Go

section
variable {P : Program} {E : Env} {ρ : Pl} {fr : T AV} {ev : Operand → Value}

theorem tkOf_ptr {d : TypeDesc} {e : Nat} (h : TK.ptr e = tkOf d) : d = .pointer e := by cases d <;> simp [tkOf] at h; subst h; rfl
theorem tkOf_slice {d : TypeDesc} {e : Nat} (h : TK.slice e = tkOf d) : d = .slice e := by cases d <;> simp [tkOf] at h; subst h; rfl
theorem tkOf_bool {d : TypeDesc} (h : TK.bool = tkOf d) : d = .bool := by cases d <;> simp [tkOf] at h; rfl
theorem tkOf_str {d : TypeDesc} (h : TK.str = tkOf d) : d = .string := by cases d <;> simp [tkOf] at h; rfl
theorem tkOf_int {d : TypeDesc} {k : IntKind} (h : TK.int k = tkOf d) : d = .int k := by cases d <;> simp [tkOf] at h; subst h; rfl
theorem tkOf_map {d : TypeDesc} {k e : Nat} (h : TK.map k e = tkOf d) : d = .map k e := by cases d <;> simp [tkOf] at h; obtain ⟨rfl, rfl⟩ := h; rfl
theorem tkOf_arr {d : TypeDesc} {k e : Nat} (h : TK.arr k e = tkOf d) : d = .array k e := by cases d <;> simp [tkOf] at h; obtain ⟨rfl, rfl⟩ := h; rfl
theorem tkOf_fn {d : TypeDesc} (h : TK.fn = tkOf d) : ∃ a b c, d = .func a b c := by cases d <;> simp [tkOf] at h; exact ⟨_, _, _, rfl⟩
theorem tkOf_struct {d : TypeDesc} {fs : List (Nat × Nat)} (h : TK.struct fs = tkOf d) : ∃ fields, d = .struct fields ∧ fs = fields.toList.map fun f => (f.type, f.offset) := by
  cases d <;> simp [tkOf] at h; exact ⟨_, rfl, h⟩

theorem VS_ptr {b o : Nat} {u : Value} (h : VS ρ (.ptr b o) u) : ∃ a, u = .pointer (some a) := by obtain ⟨l, _, h⟩ := h; exact ⟨_, h⟩
theorem VS_sl {b o n c : Nat} {u : Value} (h : VS ρ (.sl b o n c) u) : ∃ a m k, u = .slice (some a) m k := by
  obtain ⟨l, _, h⟩ := h
  exact ⟨_, _, _, h⟩
theorem VS_so {b o n c : Nat} {u : Value} (h : VS ρ (.so b o n c) u) : ∃ a m k, u = .slice (some a) m k := by
  obtain ⟨l, _, _, _, _, h | ⟨_, _, _, h⟩⟩ := h <;> exact ⟨_, _, _, h⟩
theorem VS_mp {b : Nat} {u : Value} (h : VS ρ (.mp b) u) : ∃ a, u = .map (some a) := by obtain ⟨l, _, h⟩ := h; exact ⟨_, h⟩
theorem VS_fn {f : Nat} {c : List AV} {u : Value} (h : VS ρ (.fn f c) u) : ∃ l : List Value, u = .func (.func f) #[] l.toArray := by obtain ⟨l, _, h⟩ := h; exact ⟨_, h⟩

theorem eqK_sound {t : TypeId} {ti : TI} {i : TypeInfo} {z : Value} {d : TypeDesc} (hT : TIok P t ti i z d) {x y : AV} {b : Bool} (h : eqK ti.k x y = some b) {u v : Value} (hu : VS ρ x u) (hv : VS ρ y v) (n : Nat) (w : World) :
    (Op.equalIn (n + 1) t u v).run P w = .ok b w := by
  have hk := hT.k
  have hd := hT.und
  generalize hK : ti.k = K at h hk
  unfold eqK at h
  split at h <;> simp only [Option.some.injEq, reduceCtorEq] at h <;> subst h
  · rw [tkOf_bool hk] at hd; subst hu hv; exact run_equalIn_bool' w n t _ _ hd
  · rw [tkOf_ptr hk] at hd; simp only [VS] at hu hv; subst hu hv; simp [Op.equalIn, underlying, hd]
  · rw [tkOf_ptr hk] at hd; simp only [VS] at hu; obtain ⟨_, hv⟩ := VS_ptr hv; subst hu hv; simp [Op.equalIn, underlying, hd]
  · rw [tkOf_ptr hk] at hd; simp only [VS] at hv; obtain ⟨_, hu⟩ := VS_ptr hu; subst hu hv; simp [Op.equalIn, underlying, hd]
  · rw [tkOf_slice hk] at hd; simp only [VS] at hu hv; subst hu hv; simp [Op.equalIn, underlying, hd]
  · rw [tkOf_slice hk] at hd; simp only [VS] at hu; obtain ⟨_, _, _, hv⟩ := VS_sl hv; subst hu hv; simp [Op.equalIn, underlying, hd]
  · rw [tkOf_slice hk] at hd; simp only [VS] at hv; obtain ⟨_, _, _, hu⟩ := VS_sl hu; subst hu hv; simp [Op.equalIn, underlying, hd]
  · rw [tkOf_slice hk] at hd; simp only [VS] at hu; obtain ⟨_, _, _, hv⟩ := VS_so hv; subst hu hv; simp [Op.equalIn, underlying, hd]
  · rw [tkOf_slice hk] at hd; simp only [VS] at hv; obtain ⟨_, _, _, hu⟩ := VS_so hu; subst hu hv; simp [Op.equalIn, underlying, hd]
  · rw [tkOf_slice hk] at hd; simp only [VS] at hu; obtain ⟨_, _, hv⟩ : ∃ x c, v = .slice (some x) 0 c := hv; subst hu hv; simp [Op.equalIn, underlying, hd]
  · rw [tkOf_slice hk] at hd; simp only [VS] at hv; obtain ⟨_, _, hu⟩ : ∃ x c, u = .slice (some x) 0 c := hu; subst hu hv; simp [Op.equalIn, underlying, hd]
  · rw [tkOf_map hk] at hd; simp only [VS] at hu hv; subst hu hv; simp [Op.equalIn, underlying, hd]
  · rw [tkOf_map hk] at hd; simp only [VS] at hu; obtain ⟨_, hv⟩ := VS_mp hv; subst hu hv; simp [Op.equalIn, underlying, hd]
  · rw [tkOf_map hk] at hd; simp only [VS] at hv; obtain ⟨_, hu⟩ := VS_mp hu; subst hu hv; simp [Op.equalIn, underlying, hd]
  · obtain ⟨_, _, _, e⟩ := tkOf_fn hk; rw [e] at hd; simp only [VS] at hu hv; subst hu hv; simp [Op.equalIn, underlying, hd]
  · obtain ⟨_, _, _, e⟩ := tkOf_fn hk; rw [e] at hd; simp only [VS] at hu; obtain ⟨_, hv⟩ := VS_fn hv; subst hu hv; simp [Op.equalIn, underlying, hd]
  · obtain ⟨_, _, _, e⟩ := tkOf_fn hk; rw [e] at hd; simp only [VS] at hv; obtain ⟨_, hu⟩ := VS_fn hu; subst hu hv; simp [Op.equalIn, underlying, hd]

/-- what 'eqK' takes is of one cell, and no interface value -/
def eqKind : AV → Bool
  | .top .emp => true
  | .agg _ | .tup _ | .nili | .top _ => false
  | _ => true
theorem eqK_kind {k : TK} {x y : AV} {b : Bool} (h : eqK k x y = some b) : eqKind x = true ∧ eqKind y = true := by
  unfold eqK at h
  split at h <;> first | exact ⟨rfl, rfl⟩ | cases h
theorem VR.of_kind {x : AV} {u : Value} (h : VR ρ x u) (hk : eqKind x = true) : VS ρ x u := by
  cases x <;> first | exact h | cases hk | (rename_i q; cases q <;> first | exact h | cases hk)
theorem VS.notIface {x : AV} {u : Value} (h : VS ρ x u) (hk : eqKind x = true) : u ≠ .nilIface := by
  intro e; subst e
  cases x with
  | sl b o n c => obtain ⟨_, _, _, e⟩ := VS_sl h; cases e
  | so b o n c => obtain ⟨_, _, _, e⟩ := VS_so h; cases e
  | ptr b o => obtain ⟨_, e⟩ := VS_ptr h; cases e
  | mp b => obtain ⟨_, e⟩ := VS_mp h; cases e
  | fn f c => obtain ⟨_, e⟩ := VS_fn h; cases e
  | agg _ => cases hk
  | tup _ => cases hk
  | nili => cases hk
  | top q => cases q with
    | emp => obtain ⟨_, _, e⟩ : ∃ x c, Value.nilIface = .slice (some x) 0 c := h; cases e
    | _ => cases hk
  | _ => simp [VS] at h

theorem eqT_sound {t : TypeId} {ti : TI} {i : TypeInfo} {z : Value} {d : TypeDesc} (hT : TIok P t ti i z d) {x y : AV} {b : Bool} (h : eqT ti x y = some b) {u v : Value} (hu : VR ρ x u) (hv : VR ρ y v) (op : BinOp) (ox oy : Operand) (w : World) :
    (eqGuard op t ox oy u v).run P w = .ok () w ∧ (Op.equal t u v).run P w = .ok b w := by
  unfold eqT at h
  split at h
  · rename_i xs ys
    obtain ⟨us, hus, rfl⟩ := hu
    obtain ⟨vs, hvs, rfl⟩ := hv
    split at h
    · rename_i k ks fs hf hk
      have hfl := hT.flat
      rw [hf] at hfl
      unfold flatU at hfl
      split at hfl
      · cases hfl
      · rename_i hg
        split at hfl
        · rename_i ks' hks
          subst hfl
          have hk' := hT.k
          rw [hk] at hk'
          obtain ⟨fields, rfl, _⟩ := tkOf_struct hk'
          have hl := eqCells_len h
          refine ⟨run_eqGuard_agg w op t ox oy _ _ hg, ?_⟩
          have e1 : (us.toArray.toList.drop 0).take (k :: ks).length = us := by
            have := hus.length; simp [← hl.1, ← this]
          have e2 : (vs.toArray.toList.drop 0).take (k :: ks).length = vs := by
            have := hvs.length; simp [← hl.2, ← this]
          obtain ⟨u, v, h1, h2, h3⟩ := flat_sound (ρ := ρ) w 8 t _ hks 10000 (by omega) us.toArray vs.toArray 0 xs ys b (by rw [e1]; exact hus) (by rw [e2]; exact hvs) h
          have hsz : i.size = (k :: ks).length := by
            simp only [flatOf, hT.und] at hks
            split at hks
            · cases hks
            · split at hks
              · split at hks
                · rename_i hb
                  cases hks
                  have : P.cellsOf t = (k :: ks).length := by simpa using hb
                  simpa [Program.cellsOf, hT.info] using this
                · cases hks
              · cases hks
          have p1 := run_part_agg w hT.und rfl us.toArray 0 i hT.info
          have p2 := run_part_agg w hT.und rfl vs.toArray 0 i hT.info
          rw [p1] at h1; rw [p2] at h2
          have q1 : us.toArray.extract 0 (0 + i.size) = us.toArray := by
            have := hus.length
            apply Array.ext'
            simp [hsz, ← hl.1, ← this]
          have q2 : vs.toArray.extract 0 (0 + i.size) = vs.toArray := by
            have := hvs.length
            apply Array.ext'
            simp [hsz, ← hl.2, ← this]
          rw [q1] at h1; rw [q2] at h2
          cases h1; cases h2
          exact h3
        · cases hfl
    · cases h
  · obtain ⟨k1, k2⟩ := eqK_kind h
    have h1 := hu.of_kind k1
    have h2 := hv.of_kind k2
    refine ⟨eqGuard_plain _ _ _ _ _ _ _ ?_ ?_, eqK_sound hT h h1 h2 9999 w⟩
    · rintro ⟨e, _⟩; exact h1.notIface k1 e
    · rintro ⟨m, n, e, _⟩; have := h1.oneCell; rw [e] at this; cases this

theorem VR.int {k : IntKind} {n : Int} {u : Value} (h : VR ρ (.int k n) u) : u = .int k n := h
theorem VR.bool {b : Bool} {u : Value} (h : VR ρ (.bool b) u) : u = .bool b := h
theorem VR.str {s : List UInt8} {u : Value} (h : VR ρ (.str s) u) : u = .string ⟨s.toArray⟩ := h

def notNum : Value → Bool
  | .int .. | .string _ | .float .. | .complex .. => false
  | _ => true
theorem binOp_eql {t : TypeId} {p q : Value} (h : notNum p = true) : binOp .eql t p q = (do pure (.bool (← Op.equal t p q)) : Sem Value) := by
  cases p <;> first | (cases h; done) | rfl
theorem binOp_neq {t : TypeId} {p q : Value} (h : notNum p = true) : binOp .neq t p q = (do pure (.bool (!(← Op.equal t p q))) : Sem Value) := by
  cases p <;> first | (cases h; done) | rfl
theorem eqT_notNum {ti : TI} {x y : AV} {b : Bool} (h : eqT ti x y = some b) {u : Value} (hu : VR ρ x u) : notNum u = true := by
  unfold eqT at h
  split at h
  · obtain ⟨us, _, rfl⟩ := hu; rfl
  · have h' := h
    obtain ⟨k1, _⟩ := eqK_kind h
    have h1 := hu.of_kind k1
    cases x with
    | sl b o n c => obtain ⟨_, _, _, e⟩ := VS_sl h1; rw [e]; rfl
    | so b o n c => obtain ⟨_, _, _, e⟩ := VS_so h1; rw [e]; rfl
    | ptr b o => obtain ⟨_, e⟩ := VS_ptr h1; rw [e]; rfl
    | mp b => obtain ⟨_, e⟩ := VS_mp h1; rw [e]; rfl
    | fn f c => obtain ⟨_, e⟩ := VS_fn h1; rw [e]; rfl
    | agg _ => cases k1
    | tup _ => cases k1
    | nili => cases k1
    | int k n => unfold eqK at h'; split at h' <;> simp_all
    | str s => unfold eqK at h'; split at h' <;> simp_all
    | top q => cases q with
      | emp => obtain ⟨_, _, e⟩ : ∃ x c, u = .slice (some x) 0 c := h1; rw [e]; rfl
      | _ => cases k1
    | _ => simp only [VS] at h1; subst h1; rfl

/-- an operation on two values -/
theorem binop0_sound (hE : EnvOk P E) {op : BinOp} {t : TypeId} {x y v : AV} (h : binop0 E op t x y = some v) {p q : Value} (hp : VR ρ x p) (hq : VR ρ y q) (ox oy : Operand) :
    ∃ u, VR ρ v u ∧ ∀ w, (do eqGuard op t ox oy p q; binOp op t p q : Sem Value).run P w = .ok u w := by
  unfold binop0 at h
  split at h
  · rename_i k a k' b
    rw [VR.int hp, VR.int hq]
    split at h
    · cases h
    · rename_i hb
      simp only [Option.some.injEq] at h; subst h
      refine ⟨_, rfl, fun w => ?_⟩
      simp [eqGuard_plain, binOp, Op.shift, hb]
  · rename_i k a k' b
    rw [VR.int hp, VR.int hq]
    split at h
    · cases h
    · rename_i hb
      simp only [Option.some.injEq] at h; subst h
      refine ⟨_, rfl, fun w => ?_⟩
      simp [eqGuard_plain, binOp, Op.shift, hb]
  · rename_i k a k' b
    rw [VR.int hp, VR.int hq]
    split at h
    · rename_i e; subst e
      obtain ⟨u, h1, h2⟩ := binInt_sound (ρ := ρ) (P := P) h t
      refine ⟨u, VR.of_V1 (V1.of_VS h1), fun w => ?_⟩
      simp only [Sem.run_bind]
      rw [eqGuard_plain _ _ _ _ _ _ w (by simp) (by simp)]
      exact h2 w
    · cases h
  · rename_i a b
    rw [VR.str hp, VR.str hq]
    obtain ⟨u, h1, h2⟩ := binStr_sound (ρ := ρ) (P := P) h t
    refine ⟨u, VR.of_V1 (V1.of_VS h1), fun w => ?_⟩
    simp only [Sem.run_bind, eqGuard_plain op t ox oy (.string ⟨a.toArray⟩) (.string ⟨b.toArray⟩) w (by simp) (by simp), Result.andThen_ok]
    exact h2 w
  · split at h
    · rename_i ti hti
      obtain ⟨i, z, d, hT⟩ := hE.tt _ _ hti
      split at h
      · rename_i b hb
        simp only [Option.some.injEq] at h; subst h
        refine ⟨_, rfl, fun w => ?_⟩
        obtain ⟨e1, e2⟩ := eqT_sound hT hb hp hq .eql ox oy w
        simp [e1, e2, binOp_eql (eqT_notNum hb hp)]
      · cases h
    · cases h
  · split at h
    · rename_i ti hti
      obtain ⟨i, z, d, hT⟩ := hE.tt _ _ hti
      split at h
      · rename_i b hb
        simp only [Option.some.injEq] at h; subst h
        refine ⟨_, rfl, fun w => ?_⟩
        obtain ⟨e1, e2⟩ := eqT_sound hT hb hp hq .neq ox oy w
        simp [e1, e2, binOp_neq (eqT_notNum hb hp)]
      · cases h
    · cases h
  · cases h

theorem ivl_sound {x : AV} {k : IntKind} {a b : Int} (h : ivl x = some (k, a, b)) {u : Value} (hu : VR ρ x u) : ∃ n, u = .int k n ∧ a ≤ n ∧ n ≤ b := by
  unfold ivl at h
  split at h
  · cases h; exact ⟨_, hu, by omega, by omega⟩
  · cases h; exact hu
  · cases h

theorem cmpR_sound {op : BinOp} {k : IntKind} {a b c d m n : Int} {r : Bool} (h : cmpR op a b c d = some r) (h1 : a ≤ m ∧ m ≤ b) (h2 : c ≤ n ∧ n ≤ d) : binInt op k m n = some (.bool r) := by
  obtain ⟨p1, p2⟩ := h1
  obtain ⟨p3, p4⟩ := h2
  unfold cmpR at h
  split at h <;> first | (cases h; done) | skip
  all_goals
    split at h
    · cases h
      simp only [binInt, Option.some.injEq, AV.bool.injEq]
      simp
      omega
    · split at h
      · cases h
        simp only [binInt, Option.some.injEq, AV.bool.injEq]
        simp
        omega
      · cases h

/-- an operation on two values -/
theorem binop_sound (hE : EnvOk P E) {op : BinOp} {t : TypeId} {x y v : AV} (h : binop E op t x y = some v) {p q : Value} (hp : VR ρ x p) (hq : VR ρ y q) (ox oy : Operand) :
    ∃ u, VR ρ v u ∧ ∀ w, (do eqGuard op t ox oy p q; binOp op t p q : Sem Value).run P w = .ok u w := by
  unfold binop at h
  split at h
  · rename_i z hz
    cases h
    exact binop0_sound hE hz hp hq ox oy
  · unfold cmpT at h
    split at h
    · rename_i k a b k' c d h1 h2
      split at h
      · rename_i e; subst e
        split at h
        · rename_i r hr
          cases h
          obtain ⟨m, rfl, m1⟩ := ivl_sound h1 hp
          obtain ⟨n, rfl, n1⟩ := ivl_sound h2 hq
          obtain ⟨u, g1, g2⟩ := binInt_sound (ρ := ρ) (P := P) (cmpR_sound (k := k) hr m1 n1) t
          refine ⟨u, VR.of_V1 (V1.of_VS g1), fun w => ?_⟩
          simp only [Sem.run_bind]
          rw [eqGuard_plain _ _ _ _ _ _ w (by simp) (by simp)]
          exact g2 w
        · cases h
      · cases h
    · cases h
end
end Go.Abs
