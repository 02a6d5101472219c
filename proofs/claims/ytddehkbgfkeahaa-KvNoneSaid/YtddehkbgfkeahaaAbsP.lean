/-
  The pure operations, all of them.
-/
import Derived.Test.YtddehkbgfkeahaaAbsC
namespace Go.Abs
open Go

section
variable {P : Program} {E : Env} {ρ : Pl} {fr : T AV} {ev : Operand → Value}

theorem tkOf_ptr {d : TypeDesc} {e : Nat} (h : TK.ptr e = tkOf d) : d = .pointer e := by cases d <;> simp [tkOf] at h; subst h; rfl
theorem tkOf_slice {d : TypeDesc} {e : Nat} (h : TK.slice e = tkOf d) : d = .slice e := by cases d <;> simp [tkOf] at h; subst h; rfl
theorem tkOf_bool {d : TypeDesc} (h : TK.bool = tkOf d) : d = .bool := by cases d <;> simp [tkOf] at h; rfl
theorem tkOf_str {d : TypeDesc} (h : TK.str = tkOf d) : d = .string := by cases d <;> simp [tkOf] at h; rfl
theorem tkOf_int {d : TypeDesc} {k : IntKind} (h : TK.int k = tkOf d) : d = .int k := by cases d <;> simp [tkOf] at h; subst h; rfl
theorem tkOf_map {d : TypeDesc} {k e : Nat} (h : TK.map k e = tkOf d) : d = .map k e := by cases d <;> simp [tkOf] at h; obtain ⟨rfl, rfl⟩ := h; rfl
theorem tkOf_arr {d : TypeDesc} {k e : Nat} (h : TK.arr k e = tkOf d) : d = .array k e := by cases d <;> simp [tkOf] at h; obtain ⟨rfl, rfl⟩ := h; rfl
theorem tkOf_fn {d : TypeDesc} (h : TK.fn = tkOf d) : ∃ a b c, d = .func a b c := by cases d <;> simp [tkOf] at h; exact ⟨_, _, _, rfl⟩
theorem tkOf_struct {d : TypeDesc} {fs : List (Nat × Nat)} (h : TK.struct fs = tkOf d) : ∃ fields, d = .struct fields ∧ fs = fields.toList.map fun f => (f.type, f.offset) := by
  cases d <;> simp [tkOf] at h; exact ⟨_, rfl, h⟩

theorem VS_ptr {b o : Nat} {u : Value} (h : VS ρ (.ptr b o) u) : ∃ a, u = .pointer (some a) := by obtain ⟨l, _, h⟩ := h; exact ⟨_, h⟩
theorem VS_sl {b o n c : Nat} {u : Value} (h : VS ρ (.sl b o n c) u) : ∃ a m k, u = .slice (some a) m k := by
  obtain ⟨l, _, h⟩ := h
  exact ⟨_, _, _, h⟩
theorem VS_so {b o n c : Nat} {u : Value} (h : VS ρ (.so b o n c) u) : ∃ a m k, u = .slice (some a) m k := by
  obtain ⟨l, _, _, _, _, h | ⟨_, _, _, h⟩⟩ := h <;> exact ⟨_, _, _, h⟩
theorem VS_mp {b : Nat} {u : Value} (h : VS ρ (.mp b) u) : ∃ a, u = .map (some a) := by obtain ⟨l, _, h⟩ := h; exact ⟨_, h⟩
theorem VS_fn {f : Nat} {c : List AV} {u : Value} (h : VS ρ (.fn f c) u) : ∃ l : List Value, u = .func (.func f) #[] l.toArray := by obtain ⟨l, _, h⟩ := h; exact ⟨_, h⟩

theorem eqK_sound {t : TypeId} {ti : TI} {i : TypeInfo} {z : Value} {d : TypeDesc} (hT : TIok P t ti i z d) {x y : AV} {b : Bool} (h : eqK ti.k x y = some b) {u v : Value} (hu : VS ρ x u) (hv : VS ρ y v) (n : Nat) (w : World) :
    (Op.equalIn (n + 1) t u v).run P w = .ok b w := by
  have hk := hT.k
  have hd := hT.und
  generalize hK : ti.k = K at h hk
  unfold eqK at h
  split at h <;> simp only [Option.some.injEq, reduceCtorEq] at h <;> subst h
  · rw [tkOf_bool hk] at hd; subst hu hv; exact run_equalIn_bool' w n t _ _ hd
  · rw [tkOf_ptr hk] at hd; simp only [VS] at hu hv; subst hu hv; simp [Op.equalIn, underlying, hd]
  · rw [tkOf_ptr hk] at hd; simp only [VS] at hu; obtain ⟨_, hv⟩ := VS_ptr hv; subst hu hv; simp [Op.equalIn, underlying, hd]
  · rw [tkOf_ptr hk] at hd; simp only [VS] at hv; obtain ⟨_, hu⟩ := VS_ptr hu; subst hu hv; simp [Op.equalIn, underlying, hd]
  · rw [tkOf_slice hk] at hd; simp only [VS] at hu hv; subst hu hv; simp [Op.equalIn, underlying, hd]
  · rw [tkOf_slice hk] at hd; simp only [VS] at hu; obtain ⟨_, _, _, hv⟩ := VS_sl hv; subst hu hv; simp [Op.equalIn, underlying, hd]
  · rw [tkOf_slice hk] at hd; simp only [VS] at hv; obtain ⟨_, _, _, hu⟩ := VS_sl hu; subst hu hv; simp [Op.equalIn, underlying, hd]
  · rw [tkOf_slice hk] at hd; simp only [VS] at hu; obtain ⟨_, _, _, hv⟩ := VS_so hv; subst hu hv; simp [Op.equalIn, underlying, hd]
  · rw [tkOf_slice hk] at hd; simp only [VS] at hv; obtain ⟨_, _, _, hu⟩ := VS_so hu; subst hu hv; simp [Op.equalIn, underlying, hd]
  · rw [tkOf_slice hk] at hd; simp only [VS] at hu; obtain ⟨_, _, hv⟩ : ∃ x c, v = .slice (some x) 0 c := hv; subst hu hv; simp [Op.equalIn, underlying, hd]
  · rw [tkOf_slice hk] at hd; simp only [VS] at hv; obtain ⟨_, _, hu⟩ : ∃ x c, u = .slice (some x) 0 c := hu; subst hu hv; simp [Op.equalIn, underlying, hd]
  · rw [tkOf_map hk] at hd; simp only [VS] at hu hv; subst hu hv; simp [Op.equalIn, underlying, hd]
  · rw [tkOf_map hk] at hd; simp only [VS] at hu; obtain ⟨_, hv⟩ := VS_mp hv; subst hu hv; simp [Op.equalIn, underlying, hd]
  · rw [tkOf_map hk] at hd; simp only [VS] at hv; obtain ⟨_, hu⟩ := VS_mp hu; subst hu hv; simp [Op.equalIn, underlying, hd]
  · obtain ⟨_, _, _, e⟩ := tkOf_fn hk; rw [e] at hd; simp only [VS] at hu hv; subst hu hv; simp [Op.equalIn, underlying, hd]
  · obtain ⟨_, _, _, e⟩ := tkOf_fn hk; rw [e] at hd; simp only [VS] at hu; obtain ⟨_, hv⟩ := VS_fn hv; subst hu hv; simp [Op.equalIn, underlying, hd]
  · obtain ⟨_, _, _, e⟩ := tkOf_fn hk; rw [e] at hd; simp only [VS] at hv; obtain ⟨_, hu⟩ := VS_fn hu; subst hu hv; simp [Op.equalIn, underlying, hd]

/-- what 'eqK' takes is of one cell, and no interface value -/
def eqKind : AV → Bool
  | .top .emp => true
  | .agg _ | .tup _ | .nili | .top _ => false
  | _ => true
theorem eqK_kind {k : TK} {x y : AV} {b : Bool} (h : eqK k x y = some b) : eqKind x = true ∧ eqKind y = true := by
  unfold eqK at h
  split at h <;> first | exact ⟨rfl, rfl⟩ | cases h
theorem VR.of_kind {x : AV} {u : Value} (h : VR ρ x u) (hk : eqKind x = true) : VS ρ x u := by
  cases x <;> first | exact h | cases hk | (rename_i q; cases q <;> first | exact h | cases hk)
theorem VS.notIface {x : AV} {u : Value} (h : VS ρ x u) (hk : eqKind x = true) : u ≠ .nilIface := by
  intro e; subst e
  cases x with
  | sl b o n c => obtain ⟨_, _, _, e⟩ := VS_sl h; cases e
  | so b o n c => obtain ⟨_, _, _, e⟩ := VS_so h; cases e
  | ptr b o => obtain ⟨_, e⟩ := VS_ptr h; cases e
  | mp b => obtain ⟨_, e⟩ := VS_mp h; cases e
  | fn f c => obtain ⟨_, e⟩ := VS_fn h; cases e
  | agg _ => cases hk
  | tup _ => cases hk
  | nili => cases hk
  | top q => cases q with
    | emp => obtain ⟨_, _, e⟩ : ∃ x c, Value.nilIface = .slice (some x) 0 c := h; cases e
    | _ => cases hk
  | _ => simp [VS] at h

theorem eqT_sound {t : TypeId} {ti : TI} {i : TypeInfo} {z : Value} {d : TypeDesc} (hT : TIok P t ti i z d) {x y : AV} {b : Bool} (h : eqT ti x y = some b) {u v : Value} (hu : VR ρ x u) (hv : VR ρ y v) (op : BinOp) (ox oy : Operand) (w : World) :
    (eqGuard op t ox oy u v).run P w = .ok () w ∧ (Op.equal t u v).run P w = .ok b w := by
  unfold eqT at h
  split at h
  · rename_i xs ys
    obtain ⟨us, hus, rfl⟩ := hu
    obtain ⟨vs, hvs, rfl⟩ := hv
    split at h
    · rename_i k ks hf hk
      have hfl := hT.flat
      rw [hf] at hfl
      unfold flatU at hfl
      split at hfl
      · cases hfl
      · rename_i hg
        split at hfl
        · rename_i ks' hks
          subst hfl
          have hk' := hT.k
          have hag : aggOf d = true := by
            rw [hk'] at hk
            cases d <;> first | rfl | (exact absurd hk (by simp [tkOf, aggK]))
          have hl := eqCells_len h
          refine ⟨run_eqGuard_agg w op t ox oy _ _ hg, ?_⟩
          have e1 : (us.toArray.toList.drop 0).take (k :: ks).length = us := by
            have := hus.length; simp [← hl.1, ← this]
          have e2 : (vs.toArray.toList.drop 0).take (k :: ks).length = vs := by
            have := hvs.length; simp [← hl.2, ← this]
          obtain ⟨u, v, h1, h2, h3⟩ := flat_sound (ρ := ρ) w 8 t _ hks 10000 (by omega) us.toArray vs.toArray 0 xs ys b (by rw [e1]; exact hus) (by rw [e2]; exact hvs) h
          have hsz : i.size = (k :: ks).length := by
            have hsz' := flat_size hks
            simpa [Program.cellsOf, hT.info] using hsz'
          have p1 := run_part_agg w hT.und hag us.toArray 0 i hT.info
          have p2 := run_part_agg w hT.und hag vs.toArray 0 i hT.info
          rw [p1] at h1; rw [p2] at h2
          have q1 : us.toArray.extract 0 (0 + i.size) = us.toArray := by
            have := hus.length
            apply Array.ext'
            simp [hsz, ← hl.1, ← this]
          have q2 : vs.toArray.extract 0 (0 + i.size) = vs.toArray := by
            have := hvs.length
            apply Array.ext'
            simp [hsz, ← hl.2, ← this]
          rw [q1] at h1; rw [q2] at h2
          cases h1; cases h2
          exact h3
        · cases hfl
    · cases h
  · obtain ⟨k1, k2⟩ := eqK_kind h
    have h1 := hu.of_kind k1
    have h2 := hv.of_kind k2
    refine ⟨eqGuard_plain _ _ _ _ _ _ _ ?_ ?_, eqK_sound hT h h1 h2 9999 w⟩
    · rintro ⟨e, _⟩; exact h1.notIface k1 e
    · rintro ⟨m, n, e, _⟩; have := h1.oneCell; rw [e] at this; cases this

theorem VR.int {k : IntKind} {n : Int} {u : Value} (h : VR ρ (.int k n) u) : u = .int k n := h
theorem VR.bool {b : Bool} {u : Value} (h : VR ρ (.bool b) u) : u = .bool b := h
theorem VR.str {s : List UInt8} {u : Value} (h : VR ρ (.str s) u) : u = .string ⟨s.toArray⟩ := h

def notNum : Value → Bool
  | .int .. | .string _ | .float .. | .complex .. => false
  | _ => true
theorem binOp_eql {t : TypeId} {p q : Value} (h : notNum p = true) : binOp .eql t p q = (do pure (.bool (← Op.equal t p q)) : Sem Value) := by
  cases p <;> first | (cases h; done) | rfl
theorem binOp_neq {t : TypeId} {p q : Value} (h : notNum p = true) : binOp .neq t p q = (do pure (.bool (!(← Op.equal t p q))) : Sem Value) := by
  cases p <;> first | (cases h; done) | rfl
theorem eqT_notNum {ti : TI} {x y : AV} {b : Bool} (h : eqT ti x y = some b) {u : Value} (hu : VR ρ x u) : notNum u = true := by
  unfold eqT at h
  split at h
  · obtain ⟨us, _, rfl⟩ := hu; rfl
  · have h' := h
    obtain ⟨k1, _⟩ := eqK_kind h
    have h1 := hu.of_kind k1
    cases x with
    | sl b o n c => obtain ⟨_, _, _, e⟩ := VS_sl h1; rw [e]; rfl
    | so b o n c => obtain ⟨_, _, _, e⟩ := VS_so h1; rw [e]; rfl
    | ptr b o => obtain ⟨_, e⟩ := VS_ptr h1; rw [e]; rfl
    | mp b => obtain ⟨_, e⟩ := VS_mp h1; rw [e]; rfl
    | fn f c => obtain ⟨_, e⟩ := VS_fn h1; rw [e]; rfl
    | agg _ => cases k1
    | tup _ => cases k1
    | nili => cases k1
    | int k n => unfold eqK at h'; split at h' <;> simp_all
    | str s => unfold eqK at h'; split at h' <;> simp_all
    | top q => cases q with
      | emp => obtain ⟨_, _, e⟩ : ∃ x c, u = .slice (some x) 0 c := h1; rw [e]; rfl
      | _ => cases k1
    | _ => simp only [VS] at h1; subst h1; rfl

/-- an operation on two values -/
theorem binop0_sound (hE : EnvOk P E) {op : BinOp} {t : TypeId} {x y v : AV} (h : binop0 E op t x y = some v) {p q : Value} (hp : VR ρ x p) (hq : VR ρ y q) (ox oy : Operand) :
    ∃ u, VR ρ v u ∧ ∀ w, (do eqGuard op t ox oy p q; binOp op t p q : Sem Value).run P w = .ok u w := by
  unfold binop0 at h
  split at h
  · rename_i k a k' b
    rw [VR.int hp, VR.int hq]
    split at h
    · cases h
    · rename_i hb
      simp only [Option.some.injEq] at h; subst h
      refine ⟨_, rfl, fun w => ?_⟩
      simp [eqGuard_plain, binOp, Op.shift, hb]
  · rename_i k a k' b
    rw [VR.int hp, VR.int hq]
    split at h
    · cases h
    · rename_i hb
      simp only [Option.some.injEq] at h; subst h
      refine ⟨_, rfl, fun w => ?_⟩
      simp [eqGuard_plain, binOp, Op.shift, hb]
  · rename_i k a k' b
    rw [VR.int hp, VR.int hq]
    split at h
    · rename_i e; subst e
      obtain ⟨u, h1, h2⟩ := binInt_sound (ρ := ρ) (P := P) h t
      refine ⟨u, VR.of_V1 (V1.of_VS h1), fun w => ?_⟩
      simp only [Sem.run_bind]
      rw [eqGuard_plain _ _ _ _ _ _ w (by simp) (by simp)]
      exact h2 w
    · cases h
  · rename_i a b
    rw [VR.str hp, VR.str hq]
    obtain ⟨u, h1, h2⟩ := binStr_sound (ρ := ρ) (P := P) h t
    refine ⟨u, VR.of_V1 (V1.of_VS h1), fun w => ?_⟩
    simp only [Sem.run_bind, eqGuard_plain op t ox oy (.string ⟨a.toArray⟩) (.string ⟨b.toArray⟩) w (by simp) (by simp), Result.andThen_ok]
    exact h2 w
  · split at h
    · rename_i ti hti
      obtain ⟨i, z, d, hT⟩ := hE.tt _ _ hti
      split at h
      · rename_i b hb
        simp only [Option.some.injEq] at h; subst h
        refine ⟨_, rfl, fun w => ?_⟩
        obtain ⟨e1, e2⟩ := eqT_sound hT hb hp hq .eql ox oy w
        simp [e1, e2, binOp_eql (eqT_notNum hb hp)]
      · cases h
    · cases h
  · split at h
    · rename_i ti hti
      obtain ⟨i, z, d, hT⟩ := hE.tt _ _ hti
      split at h
      · rename_i b hb
        simp only [Option.some.injEq] at h; subst h
        refine ⟨_, rfl, fun w => ?_⟩
        obtain ⟨e1, e2⟩ := eqT_sound hT hb hp hq .neq ox oy w
        simp [e1, e2, binOp_neq (eqT_notNum hb hp)]
      · cases h
    · cases h
  · cases h

theorem ivl_sound {x : AV} {k : IntKind} {a b : Int} (h : ivl x = some (k, a, b)) {u : Value} (hu : VR ρ x u) : ∃ n, u = .int k n ∧ a ≤ n ∧ n ≤ b := by
  unfold ivl at h
  split at h
  · cases h; exact ⟨_, hu, by omega, by omega⟩
  · cases h; exact hu
  · cases h

theorem cmpR_sound {op : BinOp} {k : IntKind} {a b c d m n : Int} {r : Bool} (h : cmpR op a b c d = some r) (h1 : a ≤ m ∧ m ≤ b) (h2 : c ≤ n ∧ n ≤ d) : binInt op k m n = some (.bool r) := by
  obtain ⟨p1, p2⟩ := h1
  obtain ⟨p3, p4⟩ := h2
  unfold cmpR at h
  split at h <;> first | (cases h; done) | skip
  all_goals
    split at h
    · cases h
      simp only [binInt, Option.some.injEq, AV.bool.injEq]
      simp
      omega
    · split at h
      · cases h
        simp only [binInt, Option.some.injEq, AV.bool.injEq]
        simp
        omega
      · cases h

/-- an operation on two values -/
theorem binop_sound (hE : EnvOk P E) {op : BinOp} {t : TypeId} {x y v : AV} (h : binop E op t x y = some v) {p q : Value} (hp : VR ρ x p) (hq : VR ρ y q) (ox oy : Operand) :
    ∃ u, VR ρ v u ∧ ∀ w, (do eqGuard op t ox oy p q; binOp op t p q : Sem Value).run P w = .ok u w := by
  unfold binop at h
  split at h
  · rename_i z hz
    cases h
    exact binop0_sound hE hz hp hq ox oy
  · unfold cmpT at h
    split at h
    · rename_i k a b k' c d h1 h2
      split at h
      · rename_i e; subst e
        split at h
        · rename_i r hr
          cases h
          obtain ⟨m, rfl, m1⟩ := ivl_sound h1 hp
          obtain ⟨n, rfl, n1⟩ := ivl_sound h2 hq
          obtain ⟨u, g1, g2⟩ := binInt_sound (ρ := ρ) (P := P) (cmpR_sound (k := k) hr m1 n1) t
          refine ⟨u, VR.of_V1 (V1.of_VS g1), fun w => ?_⟩
          simp only [Sem.run_bind]
          rw [eqGuard_plain _ _ _ _ _ _ w (by simp) (by simp)]
          exact g2 w
        · cases h
      · cases h
    · cases h
end
end Go.Abs

/-
  Every pure operation does in the model what it does here.
-/
namespace Go.Abs
open Go

section
variable {P : Program} {E : Env} {ρ : Pl} {fr : T AV} {ev : Operand → Value}

/-! lists of operands -/
def VX (ρ : Pl) : List AV → List Value → Prop
  | [], l => l = []
  | a :: r, l => ∃ v l', VR ρ a v ∧ VX ρ r l' ∧ l = v :: l'
def PX (ρ : Pl) : List (Nat × AV) → List (Nat × Value) → Prop
  | [], l => l = []
  | (i, a) :: r, l => ∃ v l', VR ρ a v ∧ PX ρ r l' ∧ l = (i, v) :: l'

theorem opnds_cons (x : Operand) (r : List Operand) : opnds fr (x :: r) = match opnd fr x with
    | none => none
    | some v => match opnds fr r with
      | none => none
      | some vs => some (v :: vs) := rfl
theorem opnds_sound : ∀ {l : List Operand} {vs : List AV}, opnds fr l = some vs → (∀ x ∈ l, ∀ v, opnd fr x = some v → VR ρ v (ev x)) → VX ρ vs (l.map ev)
  | [], vs, h, _ => by cases h; rfl
  | x :: r, vs, h, k => by
    rw [opnds_cons] at h
    split at h
    · cases h
    · rename_i v hv
      split at h
      · cases h
      · rename_i us hu
        cases h
        exact ⟨_, _, k x (by simp) v hv, opnds_sound hu (fun y hy => k y (by simp [hy])), rfl⟩
theorem partsOf_cons (i : Nat) (x : Operand) (r : List (Nat × Operand)) : partsOf fr ((i, x) :: r) = match opnd fr x with
    | none => none
    | some v => match partsOf fr r with
      | none => none
      | some vs => some ((i, v) :: vs) := rfl
theorem partsOf_sound : ∀ {l : List (Nat × Operand)} {vs : List (Nat × AV)}, partsOf fr l = some vs → (∀ i x, (i, x) ∈ l → ∀ v, opnd fr x = some v → VR ρ v (ev x)) →
    PX ρ vs (l.map fun (i, x) => (i, ev x))
  | [], vs, h, _ => by cases h; rfl
  | (i, x) :: r, vs, h, k => by
    rw [partsOf_cons] at h
    split at h
    · cases h
    · rename_i v hv
      split at h
      · cases h
      · rename_i us hu
        cases h
        exact ⟨_, _, k i x (by simp) v hv, partsOf_sound hu (fun j y hy => k j y (by simp [hy])), rfl⟩
theorem VX.length : ∀ {a : List AV} {l : List Value}, VX ρ a l → l.length = a.length
  | [], _, h => by subst h; rfl
  | a :: r, l, h => by obtain ⟨v, l', _, h2, rfl⟩ := h; simp [VX.length h2]
theorem VX.append : ∀ {a b : List AV} {l m : List Value}, VX ρ a l → VX ρ b m → VX ρ (a ++ b) (l ++ m)
  | [], b, l, m, h, k => by subst h; exact k
  | a :: r, b, l, m, h, k => by
    obtain ⟨v, l', h1, h2, rfl⟩ := h
    exact ⟨v, l' ++ m, h1, VX.append h2 k, rfl⟩
theorem VX.of_VL : ∀ {a : List AV} {l : List Value}, VL ρ a l → VX ρ a l
  | [], _, h => h
  | a :: r, l, h => by obtain ⟨v, l', h1, h2, rfl⟩ := h; exact ⟨v, l', VR.of_V1 (V1.of_VS h1), VX.of_VL h2, rfl⟩

/-! fill -/
theorem foldSet (off : Nat) : ∀ (vc : List Value) (k : Nat) (cells : Array Value), off + k + vc.length ≤ cells.size →
    ((vc.zipIdx k).foldl (fun (cs : Array Value) (p : Value × Nat) => cs.setIfInBounds (off + p.2) p.1) cells).toList = cells.toList.take (off + k) ++ vc ++ cells.toList.drop (off + k + vc.length) := by
  intro vc
  induction vc with
  | nil => intro k cells h; simp
  | cons v r ih =>
    intro k cells h
    simp only [List.length_cons] at h
    simp only [List.zipIdx_cons, List.foldl_cons]
    rw [ih (k + 1) _ (by simp; omega)]
    have hk : off + k < cells.toList.length := by simp; omega
    simp only [Array.toList_setIfInBounds, List.length_cons]
    have e1 : (cells.toList.set (off + k) v).take (off + (k + 1)) = cells.toList.take (off + k) ++ [v] := by
      rw [show off + (k + 1) = (off + k) + 1 from by omega, List.take_set, List.take_succ_eq_append_getElem hk]
      rw [List.set_append_right _ _ (by simp; omega), List.length_take, Nat.min_eq_left (by omega)]
      simp
    have e2 : (cells.toList.set (off + k) v).drop (off + (k + 1) + r.length) = cells.toList.drop (off + k + (r.length + 1)) := by
      rw [List.drop_set, if_pos (by omega)]
      congr 1; omega
    rw [e1, e2]; simp

theorem fillP_cons (place : Nat → Option (Nat × Nat)) (p : Nat × AV) (ps : List (Nat × AV)) (cells : List AV) : fillP place (p :: ps) cells =
    match place p.1 with
    | none => none
    | some (off, size) => match p.2.cellsN size with
      | some cs => match atN (over cs) off cells with
        | some cells => fillP place ps cells
        | none => none
      | none => none := rfl

theorem fill_sound {place place' : Nat → Option (Nat × Nat)} (hp : ∀ i x, place i = some x → place' i = some x) : ∀ {ps : List (Nat × AV)} {parts : List (Nat × Value)} {cells cells' : List AV} {C : Array Value},
    PX ρ ps parts → fillP place ps cells = some cells' → VL ρ cells C.toList → ∃ C' : Array Value, Instr.fill place' C parts = some C' ∧ VL ρ cells' C'.toList
  | [], parts, cells, cells', C, h, k, hc => by
    simp only [PX] at h; subst h; cases k; exact ⟨C, rfl, hc⟩
  | (i, a) :: r, parts, cells, cells', C, h, k, hc => by
    obtain ⟨v, l', h1, h2, rfl⟩ := h
    rw [fillP_cons] at k
    split at k
    · cases k
    · rename_i off size hpl
      split at k
      · rename_i cs hcs
        split at k
        · rename_i cells2 h3
          obtain ⟨q1, q2, q3⟩ := cellsN_sound h1 hcs
          obtain ⟨g1, g2⟩ := atN_over h3
          have hl := hc.length
          have ql := q1.length
          have hfit : ¬ (v.cells.size ≠ size || off + v.cells.size > C.size) = true := by
            simp at hl ql ⊢
            refine ⟨q3, ?_⟩
            omega
          have hfold : (v.cells.zipIdx.foldl (fun cs (c, j) => cs.setIfInBounds (off + j) c) C).toList = C.toList.take off ++ v.cells.toList ++ C.toList.drop (off + v.cells.toList.length) := by
            have := foldSet off v.cells.toList 0 C (by simp at hl ql ⊢; omega)
            rw [← Array.foldl_toList, Array.toList_zipIdx]
            simpa using this
          obtain ⟨C', e1, e2⟩ := fill_sound hp (C := v.cells.zipIdx.foldl (fun cs (c, j) => cs.setIfInBounds (off + j) c) C) h2 k (by
            rw [hfold, g2]
            refine ((hc.take off).append q1).append ?_
            rw [show v.cells.toList.length = cs.length from ql]
            exact hc.drop _)
          refine ⟨C', ?_, e2⟩
          simp only [Instr.fill, hp _ _ hpl]
          rw [if_neg hfit]; exact e1
        · cases k
      · cases k

theorem places_some : ∀ {fs : List Field}, (fs.all fun f => (P.info? f.type).isSome) = true → ∃ places, fs.mapM (fun f => (P.info? f.type).map fun i => (f.offset, i.size)) = some places ∧
    ∀ (k : Nat) (f : Field) (i : TypeInfo), fs[k]? = some f → P.info? f.type = some i → places[k]? = some (f.offset, i.size)
  | [], _ => ⟨[], rfl, by intro k f i h; simp at h⟩
  | f :: fs, h => by
    simp only [List.all_cons, Bool.and_eq_true] at h
    obtain ⟨places, h1, h2⟩ := places_some h.2
    obtain ⟨i, hi⟩ := Option.isSome_iff_exists.1 h.1
    refine ⟨(f.offset, i.size) :: places, by simp [hi, h1], ?_⟩
    intro k g j hg hj
    cases k with
    | zero => simp at hg; subst hg; rw [hi] at hj; cases hj; rfl
    | succ k => simp at hg ⊢; exact h2 k g j hg hj

theorem TIok.info_size {t : TypeId} {ti : TI} {i : TypeInfo} {z : Value} {d : TypeDesc} (h : TIok P t ti i z d) : P.info? t = some i ∧ i.size = ti.size := ⟨h.info, h.size⟩

theorem build_struct (hE : EnvOk P E) {t : TypeId} {ti : TI} (hti : E.tt.get t = some ti) {fs : List (Nat × Nat)} (hk : ti.k = .struct fs) {ps : List (Nat × AV)} {parts : Array (Nat × Value)} (hps : PX ρ ps parts.toList)
    {cs : List AV} (h : fillP (placeS fs E.tt) ps ti.zero = some cs) : ∃ C : Array Value, VL ρ cs C.toList ∧ ∀ w, (Instr.build t parts).run P w = .ok (.agg C) w := by
  obtain ⟨i, z, d, hT⟩ := hE.tt _ _ hti
  have hk' := hT.k
  rw [hk] at hk'
  obtain ⟨fields, rfl, rfl⟩ := tkOf_struct hk'
  obtain ⟨places, hp1, hp2⟩ := places_some hT.fields
  obtain ⟨C', e1, e2⟩ := fill_sound (ρ := ρ) (place' := (places.toArray[·]?)) (fun k x hx => by
    unfold placeS at hx
    split at hx
    · rename_i t' off hn
      split at hx
      · rename_i tf htf
        cases hx
        rw [nth_eq] at hn
        simp only [List.getElem?_map] at hn
        cases hf : fields.toList[k]? with
        | none => rw [hf] at hn; cases hn
        | some f =>
          rw [hf] at hn
          cases hn
          obtain ⟨i', z', d', hT'⟩ := hE.tt _ _ htf
          have := hp2 k f i' hf hT'.info
          rw [hT'.size] at this
          simpa using this
      · cases hx
    · cases hx) hps h (hT.zcells ρ)
  refine ⟨C', e2, fun w => run_build w t parts C' ?_⟩
  unfold Program.built
  simp only [hT.info, hT.und, hT.zero, hp1]
  exact e1

theorem build_arr (hE : EnvOk P E) {t : TypeId} {ti : TI} (hti : E.tt.get t = some ti) {n e : Nat} (hk : ti.k = .arr n e) {te : TI} (hte : E.tt.get e = some te) {ps : List (Nat × AV)} {parts : Array (Nat × Value)} (hps : PX ρ ps parts.toList)
    {cs : List AV} (h : fillP (fun i => some (i * te.size, te.size)) ps ti.zero = some cs) : ∃ C : Array Value, VL ρ cs C.toList ∧ ∀ w, (Instr.build t parts).run P w = .ok (.agg C) w := by
  obtain ⟨i, z, d, hT⟩ := hE.tt _ _ hti
  obtain ⟨i', z', d', hT'⟩ := hE.tt _ _ hte
  have hk' := hT.k
  rw [hk] at hk'
  have hd := tkOf_arr hk'
  subst hd
  obtain ⟨C', e1, e2⟩ := fill_sound (ρ := ρ) (fun k x hx => hx) hps h (hT.zcells ρ)
  refine ⟨C', e2, fun w => run_build w t parts C' ?_⟩
  unfold Program.built
  simp only [hT.info, hT.und, hT.zero, hT'.info, hT'.size]
  exact e1

/-! slices -/
def OI : Option Int → Option Value → Prop
  | none, v => v = none
  | some n, v => ∃ k, v = some (.int k n)
theorem optOp_sound {x : Option Operand} {r : Option Int} (h : optOp fr x = some r) (hx : ∀ y, x = some y → ∀ v, opnd fr y = some v → VR ρ v (ev y)) : OI r (x.map ev) := by
  cases x with
  | none => cases h; rfl
  | some y =>
    simp only [optOp] at h
    split at h
    · rename_i k n hn
      cases h
      exact ⟨_, by rw [Option.map_some, VR.int (hx y rfl _ hn)]⟩
    · cases h
theorem natOf_eq {n : Int} {m : Nat} (h : natOf n = some m) : n = m := by
  cases n <;> simp [natOf] at h; subst h; rfl
theorem run_sliceBound (k : IntKind) (i y : Nat) (code : BoundsCode) (w : World) (h : i ≤ y) : (Instr.sliceBound (.int k i) y code).run P w = .ok i w := by
  simp [Instr.sliceBound, asIntOf, h]

theorem bounds_sound {len cap C : Nat} {lo hi mx : Option Int} {l h m : Nat} (hb : bounds len cap lo hi mx = some (l, h, m)) (hc : cap ≤ C) {lo' hi' mx' : Option Value} (h1 : OI lo lo') (h2 : OI hi hi') (h3 : OI mx mx')
    (hm : mx ≠ none → hi ≠ none) (s : Bool) : l ≤ h ∧ h ≤ m ∧ m ≤ cap ∧ (mx = none → m = cap) ∧ ∀ w, (Instr.sliceBounds s len C lo' hi' mx').run P w = .ok (l, h, if mx.isNone then C else m) w := by
  unfold bounds at hb
  split at hb
  · cases hb
  · rename_i m0 hm0
    split at hb
    · cases hb
    · rename_i hmc
      split at hb
      · cases hb
      · rename_i h0 hh0
        split at hb
        · cases hb
        · rename_i hhm
          split at hb
          · cases hb
          · rename_i l0 hl0
            split at hb
            · cases hb
            · rename_i hlh
              simp only [Option.some.injEq, Prod.mk.injEq] at hb
              obtain ⟨rfl, rfl, rfl⟩ := hb
              have k1 : m0 ≤ cap := by simpa using hmc
              have k2 : h0 ≤ m0 := by simpa using hhm
              have k3 : l0 ≤ h0 := by simpa using hlh
              have k4 : h0 ≤ C := by omega
              have k5 : m0 ≤ C := by omega
              refine ⟨k3, k2, k1, fun e => by subst e; cases hm0; rfl, fun w => ?_⟩
              have hlo : (lo' = none ∧ l0 = 0) ∨ ∃ k, lo' = some (.int k l0) := by
                cases lo with
                | none => simp only [OI] at h1; subst h1; cases hl0; exact .inl ⟨rfl, rfl⟩
                | some n =>
                  obtain ⟨k, rfl⟩ := h1
                  have := natOf_eq hl0; subst this
                  exact .inr ⟨k, rfl⟩
              have hsb := fun (k : IntKind) (f : BoundsCode) (w : World) => run_sliceBound (P := P) k l0 h0 f w k3
              clear hl0 h1
              unfold Instr.sliceBounds
              cases mx with
              | none =>
                simp only [OI] at h3; subst h3
                cases hi with
                | none =>
                  simp only [OI] at h2; subst h2
                  cases hh0
                  rcases hlo with ⟨rfl, rfl⟩ | ⟨k0, rfl⟩ <;>
                  simp [hsb]
                | some n =>
                  obtain ⟨k, rfl⟩ := h2
                  have := natOf_eq hh0; subst this
                  have q := fun (f : BoundsCode) (w : World) => run_sliceBound (P := P) k h0 C f w k4
                  rcases hlo with ⟨rfl, rfl⟩ | ⟨k0, rfl⟩ <;>
                  simp [q, hsb]
              | some n =>
                obtain ⟨k, rfl⟩ := h3
                have := natOf_eq hm0; subst this
                cases hi with
                | none => exact absurd rfl (hm (by simp))
                | some n' =>
                  obtain ⟨k', rfl⟩ := h2
                  have := natOf_eq hh0; subst this
                  have q := fun (f : BoundsCode) (w : World) => run_sliceBound (P := P) k m0 C f w k5
                  have q' := fun (f : BoundsCode) (w : World) => run_sliceBound (P := P) k' h0 m0 f w k2
                  rcases hlo with ⟨rfl, rfl⟩ | ⟨k0, rfl⟩ <;>
                  simp [q, q', hsb]
end
end Go.Abs

/-
  Every pure operation does in the model what it does here (2).
-/
namespace Go.Abs
open Go

section
variable {P : Program} {E : Env} {ρ : Pl} {fr : T AV} {ev : Operand → Value}

theorem beq_no {m l : Nat} (h : m ≠ l) : Nat.beq m l = false := by
  cases hq : Nat.beq m l
  · rfl
  · exact absurd (Nat.eq_of_beq_eq_true hq) h
theorem beq_no' {m l : Nat} (h : Nat.beq m l = false) : m ≠ l := Nat.ne_of_beq_eq_false h

theorem add_off (a : Addr) (n : Nat) (h : a.spot = none) : a.add n = ⟨a.block, a.off + n, none⟩ := by
  cases a; simp only at h; subst h; exact add_plain _ _ _

theorem sliceOp_sound (hE : EnvOk P E) {t : TypeId} {x v : AV} {lo hi mx : Option Int} (h : sliceOp E.tt t x lo hi mx = some v) {p : Value} (hp : VR ρ x p) {lo' hi' mx' : Option Value}
    (h1 : OI lo lo') (h2 : OI hi hi') (h3 : OI mx mx') : ∃ u, VR ρ v u ∧ ∀ w, (Instr.sliceAt t p lo' hi' mx').run P w = .ok u w := by
  unfold sliceOp at h
  split at h
  · cases h
  · rename_i ti hti
    obtain ⟨i, z, d, hT⟩ := hE.tt _ _ hti
    have hk := hT.k
    have hd := hT.und
    generalize ti.k = K at h hk
    split at h
    · -- a string
      rw [tkOf_str hk] at hd
      rename_i s
      rw [VR.str hp]
      split at h
      · cases h
      · split at h
        · rename_i l hh m hb
          cases h
          obtain ⟨k1, k2, k3, k4, k5⟩ := bounds_sound (P := P) hb (Nat.le_refl _) h1 h2 h3 (fun e => absurd rfl e) false
          refine ⟨_, rfl, fun w => ?_⟩
          simp only [OI] at h3; subst h3
          have hsz : (⟨s.toArray⟩ : ByteArray).size = s.length := by simp [ByteArray.size]
          simp only [Instr.sliceAt, Instr.slice, run_underlying hd, Sem.run_bind, Result.andThen_ok, Option.isSome_none, Bool.false_eq_true, if_false, hsz, k5 w]
          simp only [Sem.run_pure, Result.ok.injEq, Value.string.injEq, and_true]
          apply ByteArray.ext
          apply Array.ext'
          simp [ByteArray.data_extract, List.take_drop]
        · cases h
    · -- nil
      rename_i e
      have he := tkOf_slice hk
      rw [he] at hd
      have hp' : p = .slice none 0 0 := hp
      subst hp'
      split at h
      · cases h
      · rename_i te hte
        obtain ⟨i', z', d', hT'⟩ := hE.tt _ _ hte
        split at h
        · cases h
        · rename_i hm
          split at h
          · rename_i x hb
            cases h
            obtain ⟨l, hh, m⟩ := x
            obtain ⟨k1, k2, k3, k4, k5⟩ := bounds_sound (P := P) hb (Nat.le_refl _) h1 h2 h3 (fun e1 e2 => by subst e2; cases mx with | none => exact e1 rfl | some q => exact hm q rfl rfl) true
            have : m = 0 := by omega
            subst this
            obtain rfl : hh = 0 := by omega
            obtain rfl : l = 0 := by omega
            refine ⟨_, rfl, fun w => ?_⟩
            simp only [Instr.sliceAt, Instr.slice, run_underlying hd, Sem.run_bind, Result.andThen_ok, k5 w, hT'.run_size w]
            simp
          · cases h
    · -- none, or nil
      rename_i e
      have he := tkOf_slice hk
      rw [he] at hd
      have hz : Top.has .emp p := hp
      split at h
      · cases h
      · rename_i te hte
        obtain ⟨i', z', d', hT'⟩ := hE.tt _ _ hte
        split at h
        · cases h
        · rename_i hm
          split at h
          · rename_i x hb
            cases h
            obtain ⟨l, hh, m⟩ := x
            obtain ⟨y, c, rfl⟩ := hz
            · obtain ⟨k1, k2, k3, k4, k5⟩ := bounds_sound (P := P) (C := c) hb (Nat.zero_le _) h1 h2 h3 (fun e1 e2 => by subst e2; cases mx with | none => exact e1 rfl | some q => exact hm q rfl rfl) true
              have : m = 0 := by omega
              subst this
              obtain rfl : hh = 0 := by omega
              obtain rfl : l = 0 := by omega
              generalize hcc : (if mx.isNone then c else 0) = cc at k5
              by_cases hcz : cc = 0
              · refine ⟨.slice (some y) 0 (cc - 0), ⟨_, _, rfl⟩, fun w => ?_⟩
                simp only [Instr.sliceAt, Instr.slice, run_underlying hd, Sem.run_bind, Result.andThen_ok, k5 w, hT'.run_size w, Sem.run_pure, Option.map_some, hcz, if_true]
              · refine ⟨.slice (some (y.add (0 * te.size))) 0 (cc - 0), ⟨_, _, rfl⟩, fun w => ?_⟩
                simp only [Instr.sliceAt, Instr.slice, run_underlying hd, Sem.run_bind, Result.andThen_ok, k5 w, hT'.run_size w, Sem.run_pure, Option.map_some, hcz, if_false]
          · cases h
    · -- known capacity
      rename_i e b o len c
      have he := tkOf_slice hk
      rw [he] at hd
      obtain ⟨l0, hl0, hp'⟩ := hp
      subst hp'
      split at h
      · cases h
      · rename_i te hte
        obtain ⟨i', z', d', hT'⟩ := hE.tt _ _ hte
        split at h
        · cases h
        · rename_i hm
          split at h
          · rename_i l hh m hb
            obtain ⟨k1, k2, k3, k4, k5⟩ := bounds_sound (P := P) hb (Nat.le_refl _) h1 h2 h3 (fun e1 e2 => by subst e2; cases mx with | none => exact e1 rfl | some q => exact hm q rfl rfl) true
            have hmm : (if mx.isNone then c else m) = m := by
              cases mx with
              | none => simp [k4 rfl]
              | some q => rfl
            rw [hmm] at k5
            cases h
            refine ⟨.slice (some ⟨l0.blk, l0.off + (match Nat.beq m l with | true => o | false => o + l * te.size), none⟩) (hh - l) (m - l), ⟨l0, hl0, rfl⟩, fun w => ?_⟩
            simp only [Instr.sliceAt, Instr.slice, run_underlying hd, Sem.run_bind, Result.andThen_ok, k5 w, hT'.run_size w, Sem.run_pure]
            by_cases hml : m = l
            · subst hml; simp
            · have : Nat.beq m l = false := beq_no hml
              rw [this]
              simp only [hml, if_false, Option.map_some, add_plain, Nat.add_assoc]
          · cases h
    · -- capacity not known
      rename_i e b i0 len es
      have he := tkOf_slice hk
      rw [he] at hd
      obtain ⟨l0, hl0, q1, q2, q3, hp'⟩ := hp
      split at h
      · cases h
      · rename_i te hte
        obtain ⟨i', z', d', hT'⟩ := hE.tt _ _ hte
        split at h
        · cases h
        · rename_i hes
          have hes' : te.size = es := by simpa using hes
          split at h
          · cases h
          · -- no third index
            simp only [OI] at h3; subst h3
            split at h
            · rename_i l hh m hb
              cases h
              obtain ⟨C, a0, hC, hlen, hpp, ha0, hcase⟩ : ∃ (C : Nat) (a0 : Nat), C = l0.room - i0 ∧ len ≤ C ∧ p = .slice (some ⟨l0.blk, a0, none⟩) len C ∧ True ∧ (a0 = l0.off + i0 * es ∨ (len = 0 ∧ C = 0)) := by
                rcases hp' with hp' | ⟨r1, r2, x, hp'⟩
                · exact ⟨_, _, rfl, by omega, hp', trivial, .inl rfl⟩
                · exact ⟨_, x, rfl, by omega, by rw [hp', r1]; congr 1; omega, trivial, .inr ⟨r1, by omega⟩⟩
              subst hpp
              obtain ⟨k1, k2, k3, k4, k5⟩ := bounds_sound (P := P) (C := C) hb hlen h1 h2 rfl (fun e1 _ => e1 rfl) true
              simp only [Option.isNone_none, if_true] at k5
              refine ⟨.slice (if C = l then some ⟨l0.blk, a0, none⟩ else some ⟨l0.blk, a0 + l * es, none⟩) (hh - l) (C - l), ⟨l0, hl0, q1, q2, by omega, ?_⟩, fun w => ?_⟩
              · by_cases hcl : C = l
                · right
                  refine ⟨by omega, by omega, a0, ?_⟩
                  rw [if_pos hcl, show hh - l = 0 from by omega, show C - l = 0 from by omega]
                · left
                  rw [if_neg hcl]
                  rcases hcase with hc | ⟨c1, c2⟩
                  · subst hc
                    rw [Nat.add_mul, Nat.add_assoc, hC, Nat.sub_sub]
                  · omega
              · simp only [Instr.sliceAt, Instr.slice, run_underlying hd, Sem.run_bind, Result.andThen_ok, k5 w, hT'.run_size w, Sem.run_pure, Option.map_some, add_plain, hes']
            · cases h
          · -- a third index
            rename_i mq hm
            split at h
            · rename_i l hh m hb
              split at h
              · cases h
              · rename_i hml
                cases h
                have hml' : m ≠ l := beq_no' hml
                obtain ⟨C, hlen, hpp⟩ : ∃ C : Nat, len ≤ C ∧ p = .slice (some ⟨l0.blk, l0.off + i0 * es, none⟩) len C := by
                  rcases hp' with hp' | ⟨r1, r2, x, hp'⟩
                  · exact ⟨_, by omega, hp'⟩
                  · exfalso
                    obtain ⟨k1, k2, k3, _, _⟩ := bounds_sound (P := P) (C := len) hb (Nat.le_refl _) h1 h2 h3 (fun _ e2 => by subst e2; exact hm rfl) true
                    omega
                subst hpp
                obtain ⟨k1, k2, k3, k4, k5⟩ := bounds_sound (P := P) (C := C) hb hlen h1 h2 h3 (fun _ e2 => by subst e2; exact hm rfl) true
                simp only [Option.isNone_some, Bool.false_eq_true, if_false] at k5
                refine ⟨.slice (some ⟨l0.blk, l0.off + (i0 + l) * es, none⟩) (hh - l) (m - l), ⟨l0, hl0, rfl⟩, fun w => ?_⟩
                simp only [Instr.sliceAt, Instr.slice, run_underlying hd, Sem.run_bind, Result.andThen_ok, k5 w, hT'.run_size w, Sem.run_pure, Option.map_some, add_plain, hes', hml', if_false]
                rw [Nat.add_mul, Nat.add_assoc]
            · cases h
    · cases h
end
end Go.Abs
