/-
  CALLS WHOSE OUTCOME IS KNOWN: functions without arguments that were run once, on nothing, come to the same on every heap.
-/
import Derived.Test.YtdncenepmkbolaaAbsL
namespace Go.Abs
open Go Go.ChangeShapes Go.WideShapes Go.ChangeAt Go.RowKit

/-- one call, by the calls below it -/
noncomputable def stepA (E : Env) (call : CallF) (m : Nat) (f : FuncId) (args : List AV) (h : Go.Abs.H) : Option (AV × Go.Abs.H) :=
  match E.ft.get f with
    | some fn => match fn.body with
      | some c => match codeOk fn.ntmps c && notNG fn, Nat.ble (lenN args) fn.ntmps with
        | true, true => match codeA E call m c (initFr args 0 .nil) h with
          | some (.norm, fr, h) => finishA E fn fr h
          | some (.ret, fr, h) => finishA E fn fr h
          | _ => none
        | _, _ => none
      | none => none
    | none => none

noncomputable def callX (E : Env) (S : FuncId → Option AV) (n : Nat) : CallF :=
  Nat.rec (fun _ _ _ => none) (fun m ih f args h => match S f, args with
    | some v, [] => some (v, h)
    | _, _ => stepA E ih m f args h) n

theorem callX_succ (E : Env) (S : FuncId → Option AV) (n : Nat) (f : FuncId) (args : List AV) (h : Go.Abs.H) : callX E S (n + 1) f args h = match S f, args with
    | some v, [] => some (v, h)
    | _, _ => stepA E (callX E S n) n f args h := rfl

section
variable {P : Program} {E : Env}

theorem step_ok (hE : EnvOk P E) {call : CallF} (hcall : CallsOk P call) (n : Nat) : CallsOk P (stepA E call n) := fun f args h v h' hrun => by
    unfold stepA at hrun
    split at hrun
    · rename_i fn hfn
      have hfn' := hE.ft _ _ hfn
      split at hrun
      · rename_i c hc
        split at hrun
        · rename_i hok hle
          simp only [Bool.and_eq_true] at hok
          have hle' := Nat.le_of_ble_eq_true hle
          rw [lenN_eq] at hle'
          refine ⟨fun as w => ?_, fun ρ w as hr hx => ?_⟩
          · have hng : ¬ fn.name = "runtime.NumGoroutine" := by have := hok.2; unfold notNG at this; simpa using this
            simp [callFunc, hfn', hng, hc]
          · refine calls_of_wp hfn' hc ?_
            have hxl := hx.length
            have hsz : (as.toArray ++ Array.replicate (fn.ntmps - as.toArray.size) undef).size = fn.ntmps := by simp; omega
            have hf0 : FR ρ (initFr args 0 .nil) (as.toArray ++ Array.replicate (fn.ntmps - as.toArray.size) undef) := fun t x ht => by
              rw [initFr_get] at ht
              split at ht
              · rename_i h1
                rw [Nat.sub_zero] at ht
                obtain ⟨u, h2, h3⟩ := hx.get ht
                have hlt : t < as.length := (List.getElem?_eq_some_iff.1 h2).1
                exact ⟨u, by rw [Array.getElem?_append_left (by simpa using hlt)]; simpa using h2, h3⟩
              · cases ht
            have fin : ∀ (e : Ex) (fr1 : T AV) (h1 : Go.Abs.H), codeA E call n c (initFr args 0 .nil) h = some (e, fr1, h1) → (e = .norm ∨ e = .ret) → finishA E fn fr1 h1 = some (v, h') →
                c.wp P (bodyPost P fn fun e w' => ∃ ρ' u, e = .returned u ∧ VR ρ' v u ∧ Post ρ h w ρ' h' w') { tmps := as.toArray ++ Array.replicate (fn.ntmps - as.toArray.size) undef, defers := [] } w := fun e fr1 h1 hcode he hfin =>
              code_sound hE hcall n c hok.1 _ h ρ _ w e fr1 h1 _ hcode hf0 hr hsz fun ρ' a' w' k1 k2 k3 k4 => by
                obtain ⟨rfl, u, m1, m2⟩ := finish_sound hE k1 k4.rel hfin
                rcases he with rfl | rfl <;> exact ⟨k3, u, m2, ρ', u, rfl, m1, k4⟩
            split at hrun
            · rename_i fr1 h1 hcode
              exact fin _ _ _ hcode (.inl rfl) hrun
            · rename_i fr1 h1 hcode
              exact fin _ _ _ hcode (.inr rfl) hrun
            · cases hrun
        · cases hrun
      · cases hrun
    · cases hrun

theorem callX_f {E : Env} {S : FuncId → Option AV} {n : Nat} {h : Go.Abs.H} {f : FuncId} {fn : Func} {c : Code} {args : List AV} (hs : S f = none) (hf : E.ft.get f = some fn) (hc : fn.body = some c) (hk : (codeOk fn.ntmps c && notNG fn) = true) (hl : Nat.ble args.length fn.ntmps = true) :
  callX E S (n + 1) f args h = match codeA E (callX E S n) n c (initFr args 0 .nil) h with
          | some (.norm, fr, h) => finishA E fn fr h
          | some (.ret, fr, h) => finishA E fn fr h
          | _ => none := by
  rw [callX_succ, hs]
  show stepA E (callX E S n) n f args h = _
  unfold stepA
  rw [hf]
  simp only [hc, hk, lenN_eq, hl]

theorem callA_step (n : Nat) : callA E (n + 1) = stepA E (callA E n) n := rfl

theorem R.below {ρ : Pl} {h : Go.Abs.H} {W W' : World} (hr : R ρ h W) (hb : Below W.heap.size W W') : R ρ h W' :=
  ⟨fun b l x h1 h2 => (hr.blk b l x h1 h2).keep (Ext.refl _) (hb.block _ (hr.inh b l h1)), hr.sep, hr.fresh, fun b l h1 => Nat.lt_of_lt_of_le (hr.inh b l h1) hb.size, hr.links⟩

/-- a closed value that holds no block -/
def plainAV : AV → Bool
  | .bool _ | .int _ _ | .str _ => true
  | _ => false
theorem plain_VR {ρ ρ' : Pl} {v : AV} (hp : plainAV v = true) {u : Value} (h : VR ρ v u) : VR ρ' v u := by
  cases v <;> first | exact h | (simp [plainAV] at hp)

/-- what was run on nothing -/
def SumOk (E : Env) (S : FuncId → Option AV) : Prop := ∀ f v, S f = some v → plainAV v = true ∧ ∃ m h', callA E m f [] H0 = some (v, h')

theorem sum_run {m : Nat} {f : FuncId} (h : okTrue (callA E m f [] H0) = true) : plainAV (.bool true) = true ∧ ∃ m h', callA E m f [] H0 = some (.bool true, h') := by
  unfold okTrue at h
  split at h
  · rename_i b h' e
    subst h
    exact ⟨rfl, m, h', e⟩
  · cases h

theorem callX_ok (hE : EnvOk P E) {S : FuncId → Option AV} (hS : SumOk E S) : ∀ n, CallsOk P (callX E S n)
  | 0 => fun f args h v h' hrun => by cases hrun
  | n + 1 => fun f args h v h' hrun => by
    rw [callX_succ] at hrun
    split at hrun
    · rename_i v' hv
      cases hrun
      obtain ⟨hp, m, h1, hm⟩ := hS _ _ hv
      obtain ⟨k1, k2⟩ := calls_ok hE m f _ _ _ _ hm
      refine ⟨k1, fun ρ w as hr hx => ?_⟩
      have : as = [] := hx
      subst this
      refine (k2 Pl.none w [] (R.empty w) rfl).mono fun e w' ⟨ρ', u, g1, g2, g3⟩ => ?_
      have hb := below_of_post g3 fun c ⟨b, l, x, q1, _⟩ => by cases q1
      exact ⟨ρ, u, g1, plain_VR hp g2, ⟨Ext.refl _, hr.below hb, hb.size, fun c hc _ => hb.block c hc, fun c _ k => k, fun b l q1 q2 => (by rw [q1] at q2; cases q2), fun _ _ _ => rfl, fun _ _ k => k, Nat.le_refl _, hb.tape, hb.os, hb.output⟩⟩
    · exact step_ok hE (callX_ok hE hS n) n _ _ _ _ _ hrun

/-- a law that hands back true on whatever is laid; with calls whose outcome is known -/
theorem law_laidX (hE : EnvOk P E) {S : FuncId → Option AV} (hS : SumOk E S) {fn : Func} {f : FuncId} (hsh : (fn.params.toList.all fun t => (shapeOf P 9 t).isSome) = true)
    (hmain : ∀ (h : Go.Abs.H) (l : List AV), HOk h → Args h P fn.params.toList l → ∃ n h', callX E S n f l h = some (.bool true, h'))
    {H : Type} {enc : TypeId × Value → H} (W : World) (base : Nat) (args : Array Value) (ds : List (DataW H)) (ps : List MemPlace)
    (hok : ∀ (j : Nat) t v, fn.params[j]? = some t → args[j]? = some v → Value.okWide P W .any base t v)
    (hA : DataW.TrodAll enc P W 0 (fun _ => true) true fn.params.toList args.toList ds ps) :
    Calls P f args W fun e W' => e = .returned (.bool true) ∧ Below W.heap.size W W' := by
  have hO0 : HOk H0 := fun b x hx => by cases hx
  obtain ⟨ρ1, h1, l1, _, r1, o1, _, v1, c1⟩ := args_laid (fun j t v ht hv => hok j t v (by simpa using ht) (by simpa using hv)) hA hsh Pl.none H0 (R.empty W) hO0
  obtain ⟨n, h', hrun⟩ := hmain h1 l1 o1 c1
  have h4 := ((callX_ok hE hS n f _ _ _ _ hrun).2 ρ1 W args.toList r1 v1)
  rw [Array.toArray_toList] at h4
  refine h4.mono fun e W' ⟨ρ', u, g1, g2, g3⟩ => ?_
  subst g1
  have : u = .bool true := g2
  subst this
  refine ⟨rfl, below_of_post g3 fun c ho => ?_⟩
  obtain ⟨b, l, x, q1, q2, q3, _⟩ := ho
  rw [(o1 b x q2).2.1] at q3
  cases q3
end
end Go.Abs
