/-
  THE ABSTRACT MACHINE IS SOUND: what it says of a call, the model does.
-/
import Derived.Test.YtddehkbgfkeahaaAbsD
import Derived.LoopN
import Derived.Scope
namespace Go.Abs
open Go

section
variable {P : Program} {E : Env} {call : CallF} {N : Nat}

def exOf : Ex → Exit
  | .norm => .normal
  | .exit id => .exit id
  | .ret => .ret

/-- what holds behind a piece of code -/
def After (Q : Exit → Act → World → Prop) (N : Nat) (ρ : Pl) (h : H) (a : Act) (w : World) (e : Ex) (fr' : T AV) (h' : H) : Prop :=
  ∀ ρ' a' w', FR ρ' fr' a'.tmps → a'.tmps.size = N → a'.defers = a.defers → Post ρ h w ρ' h' w' → Q (exOf e) a' w'

section eqs
variable (call) (E) (fuel : Nat) (fr : T AV) (h : H)
theorem codeA_skip : codeA E call fuel .skip fr h = some (.norm, fr, h) := rfl
theorem codeA_region (id : Nat) (ops : Array Oper) (d : Bool) : codeA E call fuel (.region id ops d) fr h = match regionA E call ops.toList d fr h with
    | some (fr, h) => some (.norm, fr, h)
    | none => none := rfl
theorem codeA_seq (a b : Code) : codeA E call fuel (.seq a b) fr h = match codeA E call fuel a fr h with
    | none => none
    | some (.norm, fr, h) => codeA E call fuel b fr h
    | some (.exit j, fr, h) => some (.exit j, fr, h)
    | some (.ret, fr, h) => some (.ret, fr, h) := rfl
theorem codeA_cond (c : Operand) (a b : Code) : codeA E call fuel (.cond c a b) fr h = match opnd fr c with
    | some (.bool true) => codeA E call fuel a fr h
    | some (.bool false) => codeA E call fuel b fr h
    | _ => none := rfl
theorem codeA_block (id : Nat) (a : Code) : codeA E call fuel (.block id a) fr h = match codeA E call fuel a fr h with
    | none => none
    | some (.norm, fr, h) => some (.norm, fr, h)
    | some (.exit j, fr, h) => match Nat.beq j id with
      | true => some (.norm, fr, h)
      | false => some (.exit j, fr, h)
    | some (.ret, fr, h) => some (.ret, fr, h) := rfl
theorem codeA_loop (a : Code) : codeA E call fuel (.loop a) fr h = loopA (codeA E call fuel a) fuel fr h := rfl
theorem codeA_exit (id : Nat) : codeA E call fuel (.exit id) fr h = some (.exit id, fr, h) := rfl
theorem codeA_ret : codeA E call fuel .ret fr h = some (.ret, fr, h) := rfl
theorem loopA_zero (body : T AV → H → St) : loopA body 0 fr h = none := rfl
theorem loopA_succ (body : T AV → H → St) (n : Nat) : loopA body (n + 1) fr h = match body fr h with
    | none => none
    | some (.norm, fr, h) => loopA body n fr h
    | some (.exit j, fr, h) => some (.exit j, fr, h)
    | some (.ret, fr, h) => some (.ret, fr, h) := rfl
end eqs

theorem region_sound (hE : EnvOk P E) (hcall : CallsOk P call) {id : Nat} {ops : Array Oper} {d : Bool} {fr fr' : T AV} {h h' : H} (hrun : regionA E call ops.toList d fr h = some (fr', h')) (hN : opsOk N ops.toList = true) {ρ : Pl} {a : Act} {w : World} (hf : FR ρ fr a.tmps) (hr : R ρ h w) (hsz : a.tmps.size = N)
    {Q : Exit → Act → World → Prop} (hQ : After Q N ρ h a w .norm fr' h') : (Code.region id ops d).wp P Q a w := by
  cases d with
  | true => exact draw_sound hE hcall hrun hN hf hr hsz hQ
  | false =>
    refine wp_region ?_
    have := runOps_sound hE hcall hN ops.toList 0 (by simp) fr h ρ a w hrun hf hr hsz hQ
    rw [Array.length_toList, ← List.range_eq_range'] at this
    exact this

theorem code_sound (hE : EnvOk P E) (hcall : CallsOk P call) (fuel : Nat) : ∀ (c : Code), codeOk N c = true → ∀ (fr : T AV) (h : H) (ρ : Pl) (a : Act) (w : World) (e : Ex) (fr' : T AV) (h' : H) (Q : Exit → Act → World → Prop),
    codeA E call fuel c fr h = some (e, fr', h') → FR ρ fr a.tmps → R ρ h w → a.tmps.size = N → After Q N ρ h a w e fr' h' → c.wp P Q a w := by
  intro c
  induction c with
  | skip =>
    intro _ fr h ρ a w e fr' h' Q hrun hf hr hsz hQ
    rw [codeA_skip] at hrun; cases hrun
    exact wp_skip (hQ ρ a w hf hsz rfl (Post.refl hr))
  | region id ops d =>
    intro hok fr h ρ a w e fr' h' Q hrun hf hr hsz hQ
    rw [codeA_region] at hrun
    split at hrun
    · rename_i fr2 h2 hh
      cases hrun
      exact region_sound hE hcall hh hok hf hr hsz hQ
    · cases hrun
  | seq x y ihx ihy =>
    intro hok fr h ρ a w e fr' h' Q hrun hf hr hsz hQ
    simp only [codeOk, Bool.and_eq_true] at hok
    rw [codeA_seq] at hrun
    refine wp_seq ?_
    split at hrun
    · cases hrun
    · rename_i fr1 h1 hx
      refine ihx hok.1 fr h ρ a w _ _ _ _ hx hf hr hsz fun ρ1 a1 w1 k1 k2 k3 k4 => ?_
      exact ihy hok.2 fr1 h1 ρ1 a1 w1 e fr' h' Q hrun k1 k4.rel k2 fun ρ2 a2 w2 m1 m2 m3 m4 => hQ ρ2 a2 w2 m1 m2 (m3.trans k3) (k4.trans m4)
    · rename_i j fr1 h1 hx
      cases hrun
      exact ihx hok.1 fr h ρ a w _ _ _ _ hx hf hr hsz fun ρ1 a1 w1 k1 k2 k3 k4 => hQ ρ1 a1 w1 k1 k2 k3 k4
    · rename_i fr1 h1 hx
      cases hrun
      exact ihx hok.1 fr h ρ a w _ _ _ _ hx hf hr hsz fun ρ1 a1 w1 k1 k2 k3 k4 => hQ ρ1 a1 w1 k1 k2 k3 k4
  | cond c x y ihx ihy =>
    intro hok fr h ρ a w e fr' h' Q hrun hf hr hsz hQ
    simp only [codeOk, Bool.and_eq_true] at hok
    rw [codeA_cond] at hrun
    split at hrun
    · rename_i hc
      exact wp_cond_true (VR.bool (hf.opnd hc)) (ihx hok.1 fr h ρ a w e fr' h' Q hrun hf hr hsz hQ)
    · rename_i hc
      exact wp_cond_false (VR.bool (hf.opnd hc)) (ihy hok.2 fr h ρ a w e fr' h' Q hrun hf hr hsz hQ)
    · cases hrun
  | block id x ih =>
    intro hok fr h ρ a w e fr' h' Q hrun hf hr hsz hQ
    simp only [codeOk] at hok
    rw [codeA_block] at hrun
    refine wp_block ?_
    split at hrun
    · cases hrun
    · rename_i fr1 h1 hx
      cases hrun
      exact ih hok fr h ρ a w _ _ _ _ hx hf hr hsz fun ρ1 a1 w1 k1 k2 k3 k4 => hQ ρ1 a1 w1 k1 k2 k3 k4
    · rename_i j fr1 h1 hx
      refine ih hok fr h ρ a w _ _ _ _ hx hf hr hsz fun ρ1 a1 w1 k1 k2 k3 k4 => ?_
      show Exit.inBlock id Q (.exit j) a1 w1
      split at hrun
      · rename_i hj
        cases hrun
        have := Nat.eq_of_beq_eq_true hj
        simp only [Exit.inBlock, this, if_true]
        exact hQ ρ1 a1 w1 k1 k2 k3 k4
      · rename_i hj
        cases hrun
        have := Nat.ne_of_beq_eq_false hj
        simp only [Exit.inBlock, this, if_false]
        exact hQ ρ1 a1 w1 k1 k2 k3 k4
    · rename_i fr1 h1 hx
      cases hrun
      exact ih hok fr h ρ a w _ _ _ _ hx hf hr hsz fun ρ1 a1 w1 k1 k2 k3 k4 => hQ ρ1 a1 w1 k1 k2 k3 k4
  | loop x ih =>
    intro hok fr h ρ a w e fr' h' Q hrun hf hr hsz hQ
    simp only [codeOk] at hok
    rw [codeA_loop] at hrun
    refine wp_loop_rounds fuel ?_
    have key : ∀ (n : Nat) (fr : T AV) (h : H) (ρ : Pl) (a : Act) (w : World), loopA (codeA E call fuel x) n fr h = some (e, fr', h') → FR ρ fr a.tmps → R ρ h w → a.tmps.size = N → After Q N ρ h a w e fr' h' → Code.rounds P x Q n a w := by
      intro n
      induction n with
      | zero => intro fr h ρ a w hrun; cases hrun
      | succ n ihn =>
        intro fr h ρ a w hrun hf hr hsz hQ
        rw [loopA_succ] at hrun
        rw [rounds_succ]
        split at hrun
        · cases hrun
        · rename_i fr1 h1 hx
          refine ih hok fr h ρ a w _ _ _ _ hx hf hr hsz fun ρ1 a1 w1 k1 k2 k3 k4 => ?_
          exact ihn fr1 h1 ρ1 a1 w1 hrun k1 k4.rel k2 fun ρ2 a2 w2 m1 m2 m3 m4 => hQ ρ2 a2 w2 m1 m2 (m3.trans k3) (k4.trans m4)
        · rename_i j fr1 h1 hx
          cases hrun
          exact ih hok fr h ρ a w _ _ _ _ hx hf hr hsz fun ρ1 a1 w1 k1 k2 k3 k4 => hQ ρ1 a1 w1 k1 k2 k3 k4
        · rename_i fr1 h1 hx
          cases hrun
          exact ih hok fr h ρ a w _ _ _ _ hx hf hr hsz fun ρ1 a1 w1 k1 k2 k3 k4 => hQ ρ1 a1 w1 k1 k2 k3 k4
    exact key fuel fr h ρ a w hrun hf hr hsz hQ
  | rangeFunc f ps as b _ _ => intro hok; cases hok
  | exit id =>
    intro _ fr h ρ a w e fr' h' Q hrun hf hr hsz hQ
    rw [codeA_exit] at hrun; cases hrun
    exact wp_exit (hQ ρ a w hf hsz rfl (Post.refl hr))
  | scope b ih =>
    intro hok fr h ρ a w e fr' h' Q hrun hf hr hsz hQ
    have hrun' : codeA E call fuel b fr h = some (e, fr', h') := hrun
    refine wp_scope_straight (ih hok fr h ρ a w _ _ _ _ hrun' hf hr hsz fun ρ1 a1 w1 k1 k2 k3 k4 => ?_)
    have := hQ ρ1 a1 w1 k1 k2 k3 k4
    cases e <;> exact this
  | label l =>
    intro _ fr h ρ a w e fr' h' Q hrun hf hr hsz hQ
    cases (show some (Ex.norm, fr, h) = some (e, fr', h') from hrun)
    exact wp_label (hQ ρ a w hf hsz rfl (Post.refl hr))
  | goto l => intro hok; cases hok
  | ret =>
    intro _ fr h ρ a w e fr' h' Q hrun hf hr hsz hQ
    rw [codeA_ret] at hrun; cases hrun
    exact wp_ret (hQ ρ a w hf hsz rfl (Post.refl hr))
  | refuse s => intro hok; cases hok

/-! results -/
theorem resA_cons (fr : T AV) (h : H) (x : ResultVar) (r : List ResultVar) : resA E fr h (x :: r) = match (match x with
      | .tmp t => fr.get t
      | .cell a t => match E.tt.get t, fr.get a with
        | some ti, some (.ptr b o) => match h.load b o ti.size with
          | some cs => mkV ti cs
          | none => none
        | _, _ => none) with
    | some v => match resA E fr h r with
      | some vs => some (v :: vs)
      | none => none
    | none => none := rfl

def resOne (ts : Array Value) : ResultVar → Sem Value
  | .tmp t => pure (ts.getD t undef)
  | .cell a t => do loadVar t (← asAddr (ts.getD a undef))

theorem results_eq (fn : Func) (ts : Array Value) : results fn ts = (do
    let vs ← fn.results.mapM (resOne ts)
    pure (if h : vs.size = 1 then vs[0] else .tuple vs) : Sem Value) := rfl

theorem resA_sound (hE : EnvOk P E) {ρ : Pl} {fr : T AV} {h : H} {w : World} {ts : Array Value} (hf : FR ρ fr ts) (hr : R ρ h w) : ∀ {l : List ResultVar} {vs : List AV}, resA E fr h l = some vs →
    ∃ us, VX ρ vs us ∧ (l.mapM (resOne ts)).run P w = .ok us w
  | [], vs, hh => by cases hh; exact ⟨[], rfl, by simp⟩
  | x :: r, vs, hh => by
    rw [resA_cons] at hh
    split at hh
    · rename_i v hv
      split at hh
      · rename_i vs' hvs
        cases hh
        obtain ⟨us, h1, h2⟩ := resA_sound hE hf hr hvs
        have : ∃ u, VR ρ v u ∧ (resOne ts x).run P w = .ok u w := by
          cases x with
          | tmp t =>
            obtain ⟨u, h3, h4⟩ := hf t v hv
            exact ⟨u, h4, by simp [resOne, h3]⟩
          | cell a t =>
            simp only at hv
            split at hv
            · rename_i ti b o hti hp
              split at hv
              · rename_i cs hcs
                obtain ⟨i, z, d, hT⟩ := hE.tt _ _ hti
                obtain ⟨u0, h3, l, hl, rfl⟩ := hf a _ hp
                obtain ⟨g1, us', g2, g3⟩ := load_sound hr hcs hl
                obtain ⟨u, h4, h5⟩ := run_loadVar hT g1 g2 g3 hv
                exact ⟨u, h4, by simp [resOne, h3, asAddr, h5]⟩
              · cases hv
            · cases hv
        obtain ⟨u, h3, h4⟩ := this
        refine ⟨u :: us, ⟨u, us, h3, h1, rfl⟩, ?_⟩
        rw [List.mapM_cons]
        simp only [Sem.run_bind, h4, Result.andThen_ok, h2, Sem.run_pure]
      · cases hh
    · cases hh

theorem VX.toVM {ρ : Pl} : ∀ {a : List AV} {l : List Value}, VX ρ a l → a.all AV.noTup = true → VM ρ a l
  | [], _, h, _ => h
  | a :: r, l, h, k => by
    obtain ⟨v, l', h1, h2, rfl⟩ := h
    simp only [List.all_cons, Bool.and_eq_true] at k
    exact ⟨v, l', by cases a <;> first | exact h1 | (exact absurd k.1 (by simp [AV.noTup])), VX.toVM h2 k.2, rfl⟩

theorem finish_sound (hE : EnvOk P E) {ρ : Pl} {fn : Func} {fr : T AV} {h h' : H} {w : World} {ts : Array Value} (hf : FR ρ fr ts) (hr : R ρ h w) {v : AV} (hh : finishA E fn fr h = some (v, h')) :
    h' = h ∧ ∃ u, VR ρ v u ∧ (results fn ts).run P w = .ok u w := by
  unfold finishA at hh
  split at hh
  · rename_i vs hvs
    split at hh
    · rename_i v' hv
      cases hh
      refine ⟨rfl, ?_⟩
      obtain ⟨us, h1, h2⟩ := resA_sound hE hf hr hvs
      have hrun : (results fn ts).run P w = .ok (if h : us.toArray.size = 1 then us.toArray[0] else .tuple us.toArray) w := by
        rw [results_eq, Array.mapM_eq_mapM_toList]
        simp only [Sem.run_bind, Sem.run_map, h2, Result.andThen_ok, Sem.run_pure]
      rw [hrun]
      unfold oneOrTup at hv
      split at hv
      · cases hv
        simp only [VX] at h1; subst h1
        exact ⟨_, ⟨[], rfl, rfl⟩, rfl⟩
      · split at hv
        · cases hv
          obtain ⟨u, l', h3, h4, rfl⟩ := h1
          simp only [VX] at h4; subst h4
          exact ⟨u, h3, rfl⟩
        · rename_i v0 r0 v1 r1
          split at hv
          · rename_i hall
            cases hv
            have hl := h1.length
            refine ⟨.tuple us.toArray, ⟨us, h1.toVM (by simpa using hall), rfl⟩, ?_⟩
            rw [dif_neg]
            simp [hl]
          · cases hv
    · cases hh
  · cases hh

/-! the slots at the start -/
theorem initFr_cons (v : AV) (r : List AV) (i : Nat) (t : T AV) : initFr (v :: r) i t = initFr r (i + 1) (t.put i v) := rfl
theorem initFr_get : ∀ (l : List AV) (i : Nat) (t : T AV) (j : Nat), (initFr l i t).get j = if i ≤ j ∧ j < i + l.length then l[j - i]? else t.get j
  | [], i, t, j => by
    rw [if_neg (by simp only [List.length_nil]; omega)]; rfl
  | v :: r, i, t, j => by
    rw [initFr_cons, initFr_get r (i + 1) _ j, T.get_put]
    simp only [List.length_cons]
    by_cases h : j = i
    · subst h
      rw [if_neg (by omega), if_pos rfl, if_pos (by omega)]
      simp
    · rw [if_neg h]
      by_cases h' : i + 1 ≤ j ∧ j < i + 1 + r.length
      · rw [if_pos h', if_pos (by omega)]
        obtain ⟨k, rfl⟩ : ∃ k, j = i + 1 + k := ⟨j - (i + 1), by omega⟩
        rw [show i + 1 + k - (i + 1) = k from by omega, show i + 1 + k - i = k + 1 from by omega]
        simp
      · rw [if_neg h', if_neg (by omega)]
theorem VX.get {ρ : Pl} : ∀ {a : List AV} {l : List Value}, VX ρ a l → ∀ {i : Nat} {x : AV}, a[i]? = some x → ∃ v, l[i]? = some v ∧ VR ρ x v
  | [], _, _, i, x, hx => by simp at hx
  | a :: r, l, h, i, x, hx => by
    obtain ⟨v, l', h1, h2, rfl⟩ := h
    cases i with
    | zero => simp at hx; subst hx; exact ⟨v, rfl, h1⟩
    | succ i => simp at hx ⊢; exact VX.get h2 hx

theorem callA_succ (n : Nat) (f : FuncId) (args : List AV) (h : H) : callA E (n + 1) f args h = match E.ft.get f with
    | some fn => match fn.body with
      | some c => match codeOk fn.ntmps c && notNG fn, Nat.ble (lenN args) fn.ntmps with
        | true, true => match codeA E (callA E n) n c (initFr args 0 .nil) h with
          | some (.norm, fr, h) => finishA E fn fr h
          | some (.ret, fr, h) => finishA E fn fr h
          | _ => none
        | _, _ => none
      | none => none
    | none => none := rfl

/-- THE ABSTRACT MACHINE IS SOUND -/
theorem calls_ok (hE : EnvOk P E) : ∀ n, CallsOk P (callA E n)
  | 0 => fun f args h v h' hrun => by cases hrun
  | n + 1 => fun f args h v h' hrun => by
    rw [callA_succ] at hrun
    split at hrun
    · rename_i fn hfn
      have hfn' := hE.ft _ _ hfn
      split at hrun
      · rename_i c hc
        split at hrun
        · rename_i hok hle
          simp only [Bool.and_eq_true] at hok
          have hle' := Nat.le_of_ble_eq_true hle
          rw [lenN_eq] at hle'
          refine ⟨fun as w => ?_, fun ρ w as hr hx => ?_⟩
          · have hng : ¬ fn.name = "runtime.NumGoroutine" := by have := hok.2; unfold notNG at this; simpa using this
            simp [callFunc, hfn', hng, hc]
          · refine calls_of_wp hfn' hc ?_
            have hxl := hx.length
            have hsz : (as.toArray ++ Array.replicate (fn.ntmps - as.toArray.size) undef).size = fn.ntmps := by simp; omega
            have hf0 : FR ρ (initFr args 0 .nil) (as.toArray ++ Array.replicate (fn.ntmps - as.toArray.size) undef) := fun t x ht => by
              rw [initFr_get] at ht
              split at ht
              · rename_i h1
                rw [Nat.sub_zero] at ht
                obtain ⟨u, h2, h3⟩ := hx.get ht
                have hlt : t < as.length := (List.getElem?_eq_some_iff.1 h2).1
                exact ⟨u, by rw [Array.getElem?_append_left (by simpa using hlt)]; simpa using h2, h3⟩
              · cases ht
            have fin : ∀ (e : Ex) (fr1 : T AV) (h1 : H), codeA E (callA E n) n c (initFr args 0 .nil) h = some (e, fr1, h1) → (e = .norm ∨ e = .ret) → finishA E fn fr1 h1 = some (v, h') →
                c.wp P (bodyPost P fn fun e w' => ∃ ρ' u, e = .returned u ∧ VR ρ' v u ∧ Post ρ h w ρ' h' w') { tmps := as.toArray ++ Array.replicate (fn.ntmps - as.toArray.size) undef, defers := [] } w := fun e fr1 h1 hcode he hfin =>
              code_sound hE (calls_ok hE n) n c hok.1 _ h ρ _ w e fr1 h1 _ hcode hf0 hr hsz fun ρ' a' w' k1 k2 k3 k4 => by
                obtain ⟨rfl, u, m1, m2⟩ := finish_sound hE k1 k4.rel hfin
                rcases he with rfl | rfl <;> exact ⟨k3, u, m2, ρ', u, rfl, m1, k4⟩
            split at hrun
            · rename_i fr1 h1 hcode
              exact fin _ _ _ hcode (.inl rfl) hrun
            · rename_i fr1 h1 hcode
              exact fin _ _ _ hcode (.inr rfl) hrun
            · cases hrun
        · cases hrun
      · cases hrun
    · cases hrun
end
end Go.Abs
