/-
  A region that draws its order (3): in whatever order it runs, it does what it does in the text's.
-/
import Derived.Test.YtdncenepmkbolaaAbsD2
namespace Go.Abs
open Go

section
variable {P : Program} {E : Env}

/-- an allocation of the region's that is carried out -/
def Al (E : Env) (ops : Array Oper) (F : Nat → T AV) (j : Nat) (o : Oper) (x : Blk) (mk : Nat → AV) : Prop :=
  ops[j]? = some o ∧ cls o.op = .alloc ∧ wantedA ops.toList (F j) o = some true ∧ allocA E (F j) o.op = some (x, mk)

theorem alloc_links {fr : T AV} {op : Op} {x : Blk} {mk : Nat → AV} (h : allocA E fr op = some (x, mk)) : x.prev = none ∧ x.next = none := by
  cases op <;> simp only [allocA] at h <;> try (cases h; done)
  all_goals (repeat' split at h)
  all_goals first
    | (cases h; exact ⟨rfl, rfl⟩)
    | cases h

structure Inv (E : Env) (ops : Array Oper) (F : Nat → T AV) (HP : Nat → H) (V : Nat → AV) (h0 : H) (ρ0 : Pl) (w0 : World) (N : Nat) (ds : List Deferred) (listed : Array Bool) (pk : Nat) (ρ : Pl) (a : Act) (w : World) : Prop where
  lsz : listed.size = ops.size
  dc : ∀ j, listed.getD j false = true → ∀ o, ops[j]? = some o → ∀ e ∈ o.after.toList, Region.binds .any e = true → listed.getD e.on false = true
  pkle : pk ≤ ops.size
  pk1 : ∀ j o, ops[j]? = some o → isEff o = true → (j < pk ↔ listed.getD j false = true)
  pk2 : pk = ops.size ∨ ∃ o, ops[pk]? = some o ∧ isEff o = true
  post : Post ρ0 h0 w0 ρ (HP pk) w
  frame : ∀ t v, (F ops.size).get t = some v → (∀ j o, ops[j]? = some o → o.dst = some t → listed.getD j false = true) → ∃ u, a.tmps[t]? = some u ∧ VR ρ v u
  unb : ∀ j o x mk, Al E ops F j o x mk → listed.getD j false = false → ρ (h0.n + j) = none ∧ (j < pk → (HP pk).get (h0.n + j) = some x)
  pend : ∀ j o x mk, Al E ops F j o x mk → listed.getD j false = true → pk ≤ j → ∃ l, ρ (h0.n + j) = some l ∧ BlkOk ρ w l x ∧ (∀ b m, b ≠ h0.n + j → ρ b = some m → m.blk ≠ l.blk) ∧ w0.heap.size ≤ l.blk ∧ l.blk < w.heap.size
  abs : ∀ j, j < ops.size → pk ≤ j → (HP pk).get (h0.n + j) = none
  room : h0.n + ops.size ≤ (HP pk).n
  seg : ∃ s, s ≤ pk ∧ (s = 0 ∨ ∃ o, ops[s - 1]? = some o ∧ isEff o = true) ∧ ∀ m, s ≤ m → m ≤ pk → Sub (HP m) (HP pk)
  size : a.tmps.size = N
  defers : a.defers = ds

variable {call : CallF} {ops : Array Oper} {F : Nat → T AV} {HP : Nat → H} {V : Nat → AV} {h0 : H} {ρ0 : Pl} {w0 : World} {N : Nat} {ds : List Deferred}

/-- from one place of the text to a later one, no effect between -/
theorem advance (hst : ∀ j o, ops[j]? = some o → StepOk E call ops.toList h0.n F HP V j j o) {ρ : Pl} {w : World} :
    ∀ (d i : Nat), i + d ≤ ops.size → (∀ j o, i ≤ j → j < i + d → ops[j]? = some o → isEff o = false) → Post ρ0 h0 w0 ρ (HP i) w → h0.n + ops.size ≤ (HP i).n →
      (∀ j, j < ops.size → i ≤ j → (HP i).get (h0.n + j) = none) →
      (∀ j o x mk, i ≤ j → j < i + d → Al E ops F j o x mk → ρ (h0.n + j) = none ∨ ∃ l, ρ (h0.n + j) = some l ∧ BlkOk ρ w l x ∧ (∀ b m, b ≠ h0.n + j → ρ b = some m → m.blk ≠ l.blk) ∧ w0.heap.size ≤ l.blk) →
      Post ρ0 h0 w0 ρ (HP (i + d)) w ∧ h0.n + ops.size ≤ (HP (i + d)).n ∧ (∀ j, j < ops.size → i + d ≤ j → (HP (i + d)).get (h0.n + j) = none) ∧
        (∀ m, i ≤ m → m ≤ i + d → Sub (HP m) (HP (i + d))) ∧ (∀ j o x mk, i ≤ j → j < i + d → Al E ops F j o x mk → (HP (i + d)).get (h0.n + j) = some x) := by
  intro d
  induction d with
  | zero => intro i _ _ hp hn ha _; exact ⟨hp, hn, ha, fun m h1 h2 => by (obtain rfl : m = i := by omega); exact fun _ _ h => h, fun j o x mk h1 h2 => by omega⟩
  | succ d ih =>
    intro i hle hne hp hn ha hal
    obtain ⟨p1, p2, p3, p4, p5⟩ := ih i (by omega) (fun j o h1 h2 h3 => hne j o h1 (by omega) h3) hp hn ha (fun j o x mk h1 h2 h3 => hal j o x mk h1 (by omega) h3)
    have hlt : i + d < ops.size := by omega
    have ho : ops[i + d]? = some ops[i + d] := by simp [hlt]
    generalize ops[i + d] = o at ho
    have hs := hst _ _ ho
    have hse := hne _ _ (by omega) (by omega) ho
    have same : HP (i + d + 1) = HP (i + d) → (∀ x mk, ¬ Al E ops F (i + d) o x mk) → _ := fun e hno =>
      show Post ρ0 h0 w0 ρ (HP (i + d + 1)) w ∧ h0.n + ops.size ≤ (HP (i + d + 1)).n ∧ (∀ j, j < ops.size → i + d + 1 ≤ j → (HP (i + d + 1)).get (h0.n + j) = none) ∧
        (∀ m, i ≤ m → m ≤ i + d + 1 → Sub (HP m) (HP (i + d + 1))) ∧ (∀ j o x mk, i ≤ j → j < i + d + 1 → Al E ops F j o x mk → (HP (i + d + 1)).get (h0.n + j) = some x) from by
        rw [e]
        refine ⟨p1, p2, fun j h1 h2 => p3 j h1 (by omega), fun m h1 h2 => ?_, fun j o' x mk h1 h2 h3 => ?_⟩
        · rcases Nat.lt_or_ge m (i + d + 1) with h | h
          · exact p4 m h1 (by omega)
          · obtain rfl : m = i + d + 1 := by omega
            rw [e]; exact fun _ _ h => h
        rcases Nat.lt_or_ge j (i + d) with h | h
        · exact p5 j o' x mk h1 h h3
        · obtain rfl : j = i + d := by omega
          have : o' = o := by have := h3.1; rw [ho] at this; cases this; rfl
          subst this
          exact absurd h3 (hno x mk)
    rw [show i + (d + 1) = i + d + 1 from by omega]
    rcases hs.step with ⟨hw, _, e⟩ | ⟨hw, hstep⟩
    · exact same e fun x mk hh => by have := hh.2.2.1; rw [hw] at this; cases this
    · cases hc : cls o.op <;> rw [hc] at hstep
      · exact same hstep.2 fun x mk hh => by have := hh.2.1; rw [hc] at this; cases this
      · obtain ⟨x, mk, hx, hv, e⟩ := hstep
        have hAl : Al E ops F (i + d) o x mk := ⟨ho, hc, hw, hx⟩
        obtain ⟨hxp, hxn⟩ := alloc_links hx
        rw [e]
        have hg : ∀ c, c ≠ h0.n + (i + d) → ((HP (i + d)).put (h0.n + (i + d)) x).get c = (HP (i + d)).get c := fun c hc => by rw [H.get_put, if_neg hc]
        have habs := p3 (i + d) hlt (Nat.le_refl _)
        refine ⟨p1.put_absent (by omega) (by omega) habs hxp hxn (hal _ _ _ _ (by omega) (by omega) hAl), p2, fun j h1 h2 => ?_, fun m h1 h2 => ?_, fun j o' x' mk' h1 h2 h3 => ?_⟩
        · rw [hg _ (by omega)]; exact p3 j h1 (by omega)
        · rcases Nat.lt_or_ge m (i + d + 1) with h | h
          · intro b y hb
            have h5 := p4 m h1 (by omega) b y hb
            rw [hg _ (fun e => by rw [e, habs] at h5; cases h5)]; exact h5
          · obtain rfl : m = i + d + 1 := by omega
            rw [e]; exact fun _ _ h => h
        · rcases Nat.lt_or_ge j (i + d) with h | h
          · rw [hg _ (by omega)]; exact p5 j o' x' mk' h1 h h3
          · obtain rfl : j = i + d := by omega
            have : o' = o := by have := h3.1; rw [ho] at this; cases this; rfl
            subst this
            have e2 := h3.2.2.2
            rw [hx] at e2; cases e2
            rw [H.get_put, if_pos rfl]
      · exact same hstep.2 fun x mk hh => by have := hh.2.1; rw [hc] at this; cases this
      · simp [isEff, hc] at hse

/-- the values of the slots, at the end and at their place -/
theorem frame_at (hst : ∀ j o, ops[j]? = some o → StepOk E call ops.toList h0.n F HP V j j o) (hreg : ∀ j o, ops[j]? = some o → RegOk ops.toList j o) {t : Tmp} {i : Nat} : ∀ (d : Nat), i + d ≤ ops.size →
    (∀ j o, i ≤ j → j < i + d → ops[j]? = some o → o.dst ≠ some t) → (F (i + d)).get t = (F i).get t
  | 0, _, _ => rfl
  | d + 1, hle, hno => by
    have hlt : i + d < ops.size := by omega
    have ho : ops[i + d]? = some ops[i + d] := by simp [hlt]
    have hs := hst _ _ ho
    have := hno _ _ (by omega) (by omega) ho
    rw [show i + (d + 1) = i + d + 1 from by omega, hs.next]
    rw [← frame_at hst hreg d (by omega) fun j o h1 h2 h3 => hno j o h1 (by omega) h3]
    cases hd : ops[i + d].dst with
    | none => rfl
    | some q =>
      simp only [putD, T.get_put]
      rw [if_neg]
      intro e; subst e; exact this hd

theorem frame_dst (hst : ∀ j o, ops[j]? = some o → StepOk E call ops.toList h0.n F HP V j j o) (hreg : ∀ j o, ops[j]? = some o → RegOk ops.toList j o) {j : Nat} {o : Oper} (ho : ops[j]? = some o) {t : Tmp} (hd : o.dst = some t) :
    ∀ i, j < i → i ≤ ops.size → (F i).get t = some (V j) := by
  intro i hi hle
  obtain ⟨d, rfl⟩ : ∃ d, i = j + 1 + d := ⟨i - (j + 1), by omega⟩
  rw [frame_at hst hreg d hle fun k o' h1 h2 h3 he => ?_]
  · have hs := hst _ _ ho
    rw [hs.next, hd]
    simp [putD, T.get_put]
  · exact (hreg k o' h3).dst t he j o (by omega) (by simpa using ho) hd
end
end Go.Abs
