/-
  PARTS OF A HEAP: what one has is told as a list of parts, each with blocks of its own; a step changes the first part and leaves the rest.
-/
import Derived.Test.YtdncenepmkbolaaAbsA
namespace Go.Abs.W
open Go Go.Abs Go.Abs.S

/-! structs held against each other, cell by cell -/
def K1 : FK → AV → Prop
  | .i, v => ∃ n, v = .int .i64 n
  | .s, v => ∃ s, v = .str s
  | .b, v => ∃ b, v = .bool b
def Fits : List FK → List AV → Prop
  | [], l => l = []
  | k :: ks, l => ∃ v r, l = v :: r ∧ K1 k v ∧ Fits ks r
theorem eqCell_fit {k : FK} {a b : AV} (ha : K1 k a) (hb : K1 k b) : ∃ c, eqCell k a b = some c ∧ (c = true ↔ a = b) := by
  cases k with
  | i =>
    obtain ⟨n, rfl⟩ := ha
    obtain ⟨m, rfl⟩ := hb
    exact ⟨n == m, by simp [eqCell], by simp⟩
  | s =>
    obtain ⟨n, rfl⟩ := ha
    obtain ⟨m, rfl⟩ := hb
    exact ⟨n == m, by simp [eqCell], by simp⟩
  | b =>
    obtain ⟨n, rfl⟩ := ha
    obtain ⟨m, rfl⟩ := hb
    exact ⟨n == m, by simp [eqCell], by simp⟩
theorem eqCells_fit : ∀ {ks : List FK} {x y : List AV}, Fits ks x → Fits ks y → ∃ c, eqCells ks x y = some c ∧ (c = true ↔ x = y)
  | [], x, y, hx, hy => by
    have : x = [] := hx
    have : y = [] := hy
    subst x y
    exact ⟨true, rfl, by simp⟩
  | k :: ks, x, y, hx, hy => by
    obtain ⟨a, r, rfl, h1, h2⟩ := hx
    obtain ⟨b, s, rfl, h3, h4⟩ := hy
    obtain ⟨c, e1, i1⟩ := eqCell_fit h1 h3
    obtain ⟨d, e2, i2⟩ := eqCells_fit h2 h4
    cases c with
    | true => exact ⟨d, by simp only [eqCells, e1, e2], by rw [i2]; simp [i1.1 rfl]⟩
    | false => exact ⟨false, by simp only [eqCells, e1, e2], by simp; intro e; exact absurd (i1.2 e) (by simp)⟩
def fkEq : FK → FK → Bool
  | .i, .i => true
  | .s, .s => true
  | .b, .b => true
  | _, _ => false
def fksEq : List FK → List FK → Bool
  | [], [] => true
  | x :: r, y :: s => fkEq x y && fksEq r s
  | _, _ => false
theorem fksEq_eq : ∀ {k l : List FK}, fksEq k l = true → k = l
  | [], [], _ => rfl
  | x :: r, y :: s, h => by
    simp only [fksEq, Bool.and_eq_true] at h
    rw [fksEq_eq h.2]
    have : x = y := by cases x <;> cases y <;> first | rfl | (exact absurd h.1 (by simp [fkEq]))
    rw [this]
  | [], _ :: _, h => by cases h
  | _ :: _, [], h => by cases h
def flatIs (o : Option TI) (l : List FK) : Bool :=
  match o, l with
  | some ti, _ :: _ => fksEq ti.flat l && aggK ti.k
  | _, _ => false
theorem eqT_fit {E : Env} {t : TypeId} {l : List FK} (hf : flatIs (E.tt.get t) l = true) {x y : List AV} (hx : Fits l x) (hy : Fits l y) :
    ∃ c, binop E .eql t (.agg x) (.agg y) = some (.bool c) ∧ binop E .neq t (.agg x) (.agg y) = some (.bool (!c)) ∧ (c = true ↔ x = y) := by
  obtain ⟨c, e, i⟩ := eqCells_fit hx hy
  unfold flatIs at hf
  split at hf
  · rename_i ti k ks ht
    simp only [Bool.and_eq_true] at hf
    obtain ⟨h1, h2⟩ := hf
    have h1 := fksEq_eq h1
    have ht' : eqT ti (.agg x) (.agg y) = some c := by simp only [eqT, h1, h2]; exact e
    exact ⟨c, by simp only [binop, binop0, ht, ht'], by simp only [binop, binop0, ht, ht'], i⟩
  · cases hf
/-- the same struct on both sides -/
theorem eqT_self {E : Env} {t : TypeId} {l : List FK} (hf : flatIs (E.tt.get t) l = true) {x : List AV} (hx : Fits l x) : binop E .neq t (.agg x) (.agg x) = some (.bool false) ∧ binop E .eql t (.agg x) (.agg x) = some (.bool true) := by
  obtain ⟨c, e1, e2, i⟩ := eqT_fit hf hx hx
  have := i.2 rfl
  subst this
  exact ⟨e2, e1⟩

/-- a part of an element -/
theorem SlR.part {h : H} {es : Nat} {v : AV} {rs : List (List AV)} (k : SlR h es v rs) {i : Nat} {r : List AV} (hi : rs[i]? = some r) :
    ∃ b o, idxS es v (i : Int) = some (b, o) ∧ loadG o es (h.get b) = some r ∧ (∀ c, c < es → cellG (o + c) (h.get b) = cellQ es c (some r)) ∧ (∀ c n, c < es → n < es → loadG (o + c) n (h.get b) = takeN n (dropN c r)) ∧ blkOf v = some b := by
  have hlt : i < rs.length := (List.getElem?_eq_some_iff.1 hi).1
  obtain ⟨b, o, e1, e2, e3, e4⟩ := k.idx hi
  refine ⟨b, o, e1, e2, e3, ?_, e4⟩
  rcases k with ⟨rfl, _⟩ | ⟨b', i0, all, ro, p, q, k1, k2, k3, k4⟩
  · simp at hlt
  · have hbo : b = b' ∧ o = (i0 + i) * es := by
      rcases k3 with ⟨cap, rfl⟩ | rfl
      · simp only [idxS, natOf_ofNat, blt_t hlt, Option.some.injEq, Prod.mk.injEq] at e1
        exact ⟨e1.1.symm, by rw [← e1.2, Nat.add_mul]⟩
      · simp only [idxS, natOf_ofNat, blt_t hlt, Nat.beq_refl, Option.some.injEq, Prod.mk.injEq] at e1
        exact ⟨e1.1.symm, e1.2.symm⟩
    obtain ⟨rfl, rfl⟩ := hbo
    intro c n hc hn
    have ha : nth all (i0 + i) = some r := by rw [nth_eq, k4 i hlt, hi]
    have q1 : ((i0 + i) * es + c) % es = c := by rw [Nat.add_comm, Nat.add_mul_mod_self_right, Nat.mod_eq_of_lt hc]
    have q2 : ((i0 + i) * es + c) / es = i0 + i := by rw [Nat.add_comm, Nat.add_mul_div_right _ _ k2, Nat.div_eq_of_lt hc, Nat.zero_add]
    rw [k1]
    simp only [loadG, q1, q2, ha]
    rw [if_neg (by omega)]

theorem SlR.new {h : H} {es : Nat} {v : AV} {rs : List (List AV)} (k : SlR h es v rs) (hb : ∀ x, blkOf v = some x → x < h.n) (x : Blk) : SlR (h.new x) es v rs := k.keep fun b h1 => get_new_ne _ _ _ (by have := hb b h1; omega)
/-- a part of the heap, and the blocks that it leans on -/
abbrev Ch := H → List Nat → Prop
structure Ok (c : Ch) : Prop where
  lt : ∀ {h S}, c h S → ∀ x ∈ S, x < h.n
  keep : ∀ {h h' S T}, c h S → Keep h h' T → (∀ x ∈ S, x ∉ T) → c h' S

def Has (h0 : H) : List Ch → List Nat → H → Prop
  | [], _, h => HExt h0 h
  | c :: L, A, h => ∃ S, Ok c ∧ c h S ∧ (∀ x ∈ S, h0.n ≤ x ∧ x ∉ A) ∧ Has h0 L (S ++ A) h
/-- what one has beside what was there at first -/
def Hs (h0 : H) (L : List Ch) (h : H) : Prop := Has h0 L [] h

theorem Has.sub {h0 h : H} : ∀ {L : List Ch} {A B : List Nat}, Has h0 L A h → (∀ x ∈ B, x ∈ A) → Has h0 L B h
  | [], _, _, k, _ => k
  | _ :: _, _, _, ⟨S, k1, k2, k3, k4⟩, hb => ⟨S, k1, k2, fun x hx => ⟨(k3 x hx).1, fun e => (k3 x hx).2 (hb x e)⟩, k4.sub fun x hx => by
      rcases List.mem_append.1 hx with hx | hx
      · exact List.mem_append_left _ hx
      · exact List.mem_append_right _ (hb x hx)⟩
theorem Has.swap {h0 h : H} {c d : Ch} {L : List Ch} {A : List Nat} (k : Has h0 (c :: d :: L) A h) : Has h0 (d :: c :: L) A h := by
  obtain ⟨S, k1, k2, k3, T, q1, q2, q3, q4⟩ := k
  refine ⟨T, q1, q2, fun x hx => ⟨(q3 x hx).1, fun e => (q3 x hx).2 (List.mem_append_right _ e)⟩, S, k1, k2, fun x hx => ⟨(k3 x hx).1, fun e => ?_⟩, q4.sub fun x hx => ?_⟩
  · rcases List.mem_append.1 e with e | e
    · exact (q3 x e).2 (List.mem_append_left _ hx)
    · exact (k3 x hx).2 e
  · simp only [List.mem_append] at hx ⊢
    rcases hx with hx | hx | hx
    · exact .inr (.inl hx)
    · exact .inl hx
    · exact .inr (.inr hx)
theorem Has.perm {h0 h : H} {L L' : List Ch} (p : L.Perm L') : ∀ {A : List Nat}, Has h0 L A h → Has h0 L' A h := by
  induction p with
  | nil => exact fun k => k
  | cons c _ ih => exact fun ⟨S, k1, k2, k3, k4⟩ => ⟨S, k1, k2, k3, ih k4⟩
  | swap c d _ => exact fun k => k.swap
  | trans _ _ i1 i2 => exact fun k => i2 (i1 k)
theorem Has.keep {h0 h h' : H} {T : List Nat} (hk : Keep h h' T) (ht : ∀ x ∈ T, h0.n ≤ x) : ∀ {L : List Ch} {A : List Nat}, Has h0 L A h → (∀ x ∈ T, x ∈ A ∨ h.n ≤ x) → Has h0 L A h'
  | [], _, k, _ => HExt.keep k hk ht
  | _ :: _, _, ⟨S, k1, k2, k3, k4⟩, hd => ⟨S, k1, k1.keep k2 hk fun x hx e => by
      rcases hd x e with h | h
      · exact (k3 x hx).2 h
      · have := k1.lt k2 x hx; omega, k3, k4.keep hk ht fun x hx => (hd x hx).imp (fun h => List.mem_append_right _ h) id⟩
theorem Has.ext {h0 h : H} : ∀ {L : List Ch} {A : List Nat}, Has h0 L A h → HExt h0 h
  | [], _, k => k
  | _ :: _, _, ⟨_, _, _, _, k⟩ => k.ext
theorem Has.fresh {h0 h : H} : ∀ {L : List Ch} {A B : List Nat}, Has h0 L A h → (∀ x ∈ B, x ∈ A ∨ h.n ≤ x) → Has h0 L B h
  | [], _, _, k, _ => k
  | _ :: _, _, _, ⟨S, k1, k2, k3, k4⟩, hb => ⟨S, k1, k2, fun x hx => ⟨(k3 x hx).1, fun e => by
      rcases hb x e with h | h
      · exact (k3 x hx).2 h
      · have := k1.lt k2 x hx; omega⟩, k4.fresh fun x hx => by
      rcases List.mem_append.1 hx with hx | hx
      · exact .inl (List.mem_append_left _ hx)
      · exact (hb x hx).imp (fun h => List.mem_append_right _ h) id⟩

section
variable {h0 h h' : H} {c d : Ch} {L : List Ch}
theorem Hs.perm {L' : List Ch} (k : Hs h0 L h) (p : L.Perm L') : Hs h0 L' h := Has.perm p k
theorem Hs.ext (k : Hs h0 L h) : HExt h0 h := Has.ext k
theorem Hs.start (h0 : H) : Hs h0 [] h0 := HExt.refl h0
theorem Hs.of_ext (k : HExt h0 h) : Hs h0 [] h := k
theorem Hs.drop (k : Hs h0 (c :: L) h) : Hs h0 L h := by obtain ⟨S, _, _, _, k⟩ := k; exact Has.sub k (by simp)
theorem Hs.read (k : Hs h0 (c :: L) h) : ∃ S, c h S ∧ ∀ x ∈ S, h0.n ≤ x ∧ x < h.n := by obtain ⟨S, k1, k2, k3, _⟩ := k; exact ⟨S, k2, fun x hx => ⟨(k3 x hx).1, k1.lt k2 x hx⟩⟩
/-- new blocks alone -/
theorem Hs.more (k : Hs h0 L h) (hk : Keep h h' []) : Hs h0 L h' := Has.keep hk (by simp) k (by simp)
/-- a step of the first part: what comes of it has its blocks, or new ones -/
theorem Hs.step (hd : Ok d) (k : Hs h0 (c :: L) h) (hs : ∀ S, c h S → ∃ S', d h' S' ∧ Keep h h' S ∧ ∀ x ∈ S', x ∈ S ∨ h.n ≤ x) : Hs h0 (d :: L) h' := by
  obtain ⟨S, k1, k2, k3, k4⟩ := k
  obtain ⟨S', q1, q2, q3⟩ := hs S k2
  have hn := Has.ext k4
  refine ⟨S', hd, q1, fun x hx => ⟨?_, by simp⟩, ?_⟩
  · rcases q3 x hx with h | h
    · exact (k3 x h).1
    · have := hn.1; omega
  · have k5 : Has h0 L (S ++ S') h := k4.fresh fun x hx => by
      rcases List.mem_append.1 hx with hx | hx
      · exact .inl (by simpa using hx)
      · exact (q3 x hx).imp (fun h => by simpa using h) id
    have k6 := k5.keep (A := S ++ S') q2 (fun x hx => (k3 x hx).1) fun x hx => .inl (List.mem_append_left _ hx)
    exact k6.sub fun x hx => by simp at hx; exact List.mem_append_right _ hx
/-- a step of the first part, two come of it -/
theorem Hs.step2 {e : Ch} (hd : Ok d) (he : Ok e) (k : Hs h0 (c :: L) h) (hs : ∀ S, c h S → ∃ S' T', d h' S' ∧ e h' T' ∧ Keep h h' S ∧ (∀ x ∈ S', x ∈ S ∨ h.n ≤ x) ∧ (∀ x ∈ T', (x ∈ S ∨ h.n ≤ x) ∧ x ∉ S')) : Hs h0 (d :: e :: L) h' := by
  obtain ⟨S, k1, k2, k3, k4⟩ := k
  obtain ⟨S', T', q1, q1', q2, q3, q4⟩ := hs S k2
  have hn := Has.ext k4
  refine ⟨S', hd, q1, fun x hx => ⟨?_, by simp⟩, T', he, q1', fun x hx => ⟨?_, ?_⟩, ?_⟩
  · rcases q3 x hx with h | h
    · exact (k3 x h).1
    · have := hn.1; omega
  · rcases (q4 x hx).1 with h | h
    · exact (k3 x h).1
    · have := hn.1; omega
  · simpa using (q4 x hx).2
  · have k5 : Has h0 L (S ++ (T' ++ S')) h := k4.fresh fun x hx => by
      simp only [List.mem_append] at hx
      rcases hx with hx | hx | hx
      · exact .inl (by simpa using hx)
      · exact (q4 x hx).1.imp (fun h => by simpa using h) id
      · exact (q3 x hx).imp (fun h => by simpa using h) id
    have k6 := k5.keep (A := S ++ (T' ++ S')) q2 (fun x hx => (k3 x hx).1) fun x hx => .inl (List.mem_append_left _ hx)
    exact k6.sub fun x hx => by
      simp only [List.mem_append, List.append_nil] at hx ⊢
      exact .inr hx
/-- the first part, taken apart: whatever one or two come of it -/
theorem Hs.out (k : Hs h0 (c :: L) h) : ∃ S, c h S ∧ (∀ x ∈ S, h0.n ≤ x ∧ x < h.n) ∧
    (∀ (d : Ch) (h' : H) (S' : List Nat), Ok d → d h' S' → Keep h h' S → (∀ x ∈ S', x ∈ S ∨ h.n ≤ x) → Hs h0 (d :: L) h') ∧
    (∀ (d e : Ch) (h' : H) (S' T' : List Nat), Ok d → Ok e → d h' S' → e h' T' → Keep h h' S → (∀ x ∈ S', x ∈ S ∨ h.n ≤ x) → (∀ x ∈ T', (x ∈ S ∨ h.n ≤ x) ∧ x ∉ S') → Hs h0 (d :: e :: L) h') := by
  obtain ⟨S, k1, k2, k3, k4⟩ := k
  refine ⟨S, k2, fun x hx => ⟨(k3 x hx).1, k1.lt k2 x hx⟩, fun d h' S' hd q1 q2 q3 => ?_, fun d e h' S' T' hd he q1 q1' q2 q3 q4 => ?_⟩
  · have hn := Has.ext k4
    refine ⟨S', hd, q1, fun x hx => ⟨?_, by simp⟩, ?_⟩
    · rcases q3 x hx with h | h
      · exact (k3 x h).1
      · have := hn.1; omega
    · have k5 : Has h0 L (S ++ S') h := k4.fresh fun x hx => by
        rcases List.mem_append.1 hx with hx | hx
        · exact .inl (by simpa using hx)
        · exact (q3 x hx).imp (fun h => by simpa using h) id
      have k6 := k5.keep (A := S ++ S') q2 (fun x hx => (k3 x hx).1) fun x hx => .inl (List.mem_append_left _ hx)
      exact k6.sub fun x hx => by simp at hx; exact List.mem_append_right _ hx
  · have hn := Has.ext k4
    refine ⟨S', hd, q1, fun x hx => ⟨?_, by simp⟩, T', he, q1', fun x hx => ⟨?_, ?_⟩, ?_⟩
    · rcases q3 x hx with h | h
      · exact (k3 x h).1
      · have := hn.1; omega
    · rcases (q4 x hx).1 with h | h
      · exact (k3 x h).1
      · have := hn.1; omega
    · simpa using (q4 x hx).2
    · have k5 : Has h0 L (S ++ (T' ++ S')) h := k4.fresh fun x hx => by
        simp only [List.mem_append] at hx
        rcases hx with hx | hx | hx
        · exact .inl (by simpa using hx)
        · exact (q4 x hx).1.imp (fun h => by simpa using h) id
        · exact (q3 x hx).imp (fun h => by simpa using h) id
      have k6 := k5.keep (A := S ++ (T' ++ S')) q2 (fun x hx => (k3 x hx).1) fun x hx => .inl (List.mem_append_left _ hx)
      exact k6.sub fun x hx => by
        simp only [List.mem_append, List.append_nil] at hx ⊢
        exact .inr hx
/-- one part told as another one -/
theorem Hs.as (hd : Ok d) (k : Hs h0 (c :: L) h) (hs : ∀ S, c h S → d h S) : Hs h0 (d :: L) h := k.step hd fun S hc => ⟨S, hs S hc, Keep.refl h S, fun _ hx => .inl hx⟩
/-- a part that leans on nothing, or on new blocks -/
theorem Hs.add (hd : Ok d) (k : Hs h0 L h) (hk : Keep h h' []) {S' : List Nat} (hs : d h' S') (hn : ∀ x ∈ S', h.n ≤ x) : Hs h0 (d :: L) h' := by
  have k' : Hs h0 ((fun _ S => S = []) :: L) h := ⟨[], ⟨fun e x hx => by rw [e] at hx; simp at hx, fun e _ _ => e⟩, rfl, by simp, k⟩
  exact k'.step hd fun S e => ⟨S', hs, by rw [e]; exact hk, fun x hx => .inr (hn x hx)⟩

theorem Hs.at2 {a b : Ch} (k : Hs h0 (a :: b :: L) h) : Hs h0 (b :: a :: L) h := k.perm (List.Perm.swap ..)
/-- what is done behind the first part -/
theorem Hs.at2' {a b : Ch} (k : Hs h0 (a :: L) h) (f : Hs h0 (a :: L) h → Hs h0 (b :: a :: L) h) : Hs h0 (a :: b :: L) h := (f k).at2
theorem Hs.at3 {a b c : Ch} (k : Hs h0 (a :: b :: c :: L) h) : Hs h0 (c :: a :: b :: L) h := k.perm (((List.Perm.swap ..).cons a).trans (List.Perm.swap ..))
theorem perm_mid {α : Type} (P : List α) (x : α) (Q : List α) : (P ++ x :: Q).Perm (x :: (P ++ Q)) := List.perm_middle
theorem Hs.at4 {a b c d : Ch} (k : Hs h0 (a :: b :: c :: d :: L) h) : Hs h0 (d :: a :: b :: c :: L) h := k.perm (perm_mid [a, b, c] d L)
theorem Hs.at5 {a b c d e : Ch} (k : Hs h0 (a :: b :: c :: d :: e :: L) h) : Hs h0 (e :: a :: b :: c :: d :: L) h := k.perm (perm_mid [a, b, c, d] e L)
theorem Hs.at6 {a b c d e f : Ch} (k : Hs h0 (a :: b :: c :: d :: e :: f :: L) h) : Hs h0 (f :: a :: b :: c :: d :: e :: L) h := k.perm (perm_mid [a, b, c, d, e] f L)
theorem Hs.at7 {a b c d e f g : Ch} (k : Hs h0 (a :: b :: c :: d :: e :: f :: g :: L) h) : Hs h0 (g :: a :: b :: c :: d :: e :: f :: L) h := k.perm (perm_mid [a, b, c, d, e, f] g L)
theorem Hs.at8 {a b c d e f g i : Ch} (k : Hs h0 (a :: b :: c :: d :: e :: f :: g :: i :: L) h) : Hs h0 (i :: a :: b :: c :: d :: e :: f :: g :: L) h := k.perm (perm_mid [a, b, c, d, e, f, g] i L)
/-- the first one goes to the place behind so many others -/
theorem Hs.to3 {a b c : Ch} (k : Hs h0 (a :: b :: c :: L) h) : Hs h0 (b :: c :: a :: L) h := k.perm (perm_mid [b, c] a L).symm
theorem Hs.to4 {a b c d : Ch} (k : Hs h0 (a :: b :: c :: d :: L) h) : Hs h0 (b :: c :: d :: a :: L) h := k.perm (perm_mid [b, c, d] a L).symm
theorem Hs.to5 {a b c d e : Ch} (k : Hs h0 (a :: b :: c :: d :: e :: L) h) : Hs h0 (b :: c :: d :: e :: a :: L) h := k.perm (perm_mid [b, c, d, e] a L).symm
theorem Hs.to6 {a b c d e f : Ch} (k : Hs h0 (a :: b :: c :: d :: e :: f :: L) h) : Hs h0 (b :: c :: d :: e :: f :: a :: L) h := k.perm (perm_mid [b, c, d, e, f] a L).symm

/-- two parts told as one -/
theorem Hs.merge {e : Ch} (he : Ok e) (k : Hs h0 (c :: d :: L) h) (hm : ∀ S T, c h S → d h T → (∀ x ∈ T, x ∉ S) → e h (S ++ T)) : Hs h0 (e :: L) h := by
  obtain ⟨S, k1, k2, k3, T, q1, q2, q3, q4⟩ := k
  refine ⟨S ++ T, he, hm S T k2 q2 fun x hx hs => (q3 x hx).2 (by simp [hs]), fun x hx => ⟨?_, by simp⟩, Has.sub q4 fun x hx => by simp at hx ⊢; rcases hx with h | h; exact .inr h; exact .inl h⟩
  rcases List.mem_append.1 hx with h | h
  · exact (k3 x h).1
  · exact (q3 x h).1
/-! one block -/
def Cell (b : Nat) (x : Blk) : Ch := fun h S => S = [b] ∧ h.get b = some x ∧ b < h.n
theorem cell_ok (b : Nat) (x : Blk) : Ok (Cell b x) := ⟨fun ⟨e, _, k⟩ y hy => by rw [e] at hy; simp at hy; subst hy; exact k, fun ⟨e, k1, k2⟩ hk hd => ⟨e, by rw [hk.2 b k2 (hd b (by rw [e]; simp))]; exact k1, Nat.lt_of_lt_of_le k2 hk.1⟩⟩
theorem Hs.get {b : Nat} {x : Blk} (k : Hs h0 (Cell b x :: L) h) : h.get b = some x := by obtain ⟨S, k, _⟩ := k.read; exact k.2.1
theorem Hs.lt {b : Nat} {x : Blk} (k : Hs h0 (Cell b x :: L) h) : h0.n ≤ b ∧ b < h.n := by obtain ⟨S, k, k'⟩ := k.read; exact k' b (by rw [k.1]; simp)
theorem Hs.new (k : Hs h0 L h) (x : Blk) : Hs h0 (Cell h.n x :: L) (h.new x) := k.add (cell_ok _ _) ((Keep.refl h _).new x) (S' := [h.n]) ⟨rfl, get_new_same h x, by rw [hn_new]; omega⟩ (by simp)
theorem Hs.cell {b : Nat} {x : Blk} (k : Hs h0 L h) (hk : Keep h h' []) (hb : h'.get b = some x) (h1 : h.n ≤ b) (h2 : b < h'.n) : Hs h0 (Cell b x :: L) h' := k.add (cell_ok _ _) hk (S' := [b]) ⟨rfl, hb, h2⟩ (by simpa using h1)
theorem Hs.put {b : Nat} {x : Blk} (k : Hs h0 (Cell b x :: L) h) (y : Blk) : Hs h0 (Cell b y :: L) (h.put b y) := k.step (cell_ok _ _) fun S ⟨e, k1, k2⟩ => ⟨[b], ⟨rfl, get_put_same _ _ _, k2⟩, (Keep.refl h _).put (.inr (by rw [e]; simp)) y, fun x hx => .inl (by rw [e]; exact hx)⟩
theorem Hs.ne {b b' : Nat} {x y : Blk} (k : Hs h0 (Cell b x :: Cell b' y :: L) h) : b ≠ b' := by
  obtain ⟨S, _, k1, _, T, _, k2, k3, _⟩ := k
  intro e
  have := (k3 b' (by rw [k2.1]; simp)).2
  rw [k1.1, e] at this
  simp at this
/-- a number that is kept free -/
def Free (b : Nat) : Ch := fun h S => S = [b] ∧ b < h.n
theorem free_ok (b : Nat) : Ok (Free b) := ⟨fun ⟨e, k⟩ y hy => by rw [e] at hy; simp at hy; subst hy; exact k, fun ⟨e, k2⟩ hk _ => ⟨e, Nat.lt_of_lt_of_le k2 hk.1⟩⟩
theorem Hs.skip (k : Hs h0 L h) {n i : Nat} (hi : i < n) : Hs h0 (Free (h.n + i) :: L) (h.skip n) := k.add (free_ok _) ((Keep.refl h _).skip n) (S' := [h.n + i]) ⟨rfl, by rw [skip_n]; omega⟩ (by simp)
theorem Hs.skip2 (k : Hs h0 L h) {n i j : Nat} (hi : i < n) (hj : j < n) (hij : i ≠ j) : Hs h0 (Free (h.n + i) :: Free (h.n + j) :: L) (h.skip n) := by
  have key : Hs h0 ((fun h' S => S = [h.n + i, h.n + j] ∧ h.n + i < h'.n ∧ h.n + j < h'.n) :: L) (h.skip n) :=
    k.add ⟨fun ⟨e, k1, k2⟩ y hy => by rw [e] at hy; simp at hy; rcases hy with rfl | rfl <;> assumption, fun ⟨e, k1, k2⟩ hk _ => ⟨e, Nat.lt_of_lt_of_le k1 hk.1, Nat.lt_of_lt_of_le k2 hk.1⟩⟩ ((Keep.refl h _).skip n) (S' := [h.n + i, h.n + j]) ⟨rfl, by rw [skip_n]; omega, by rw [skip_n]; omega⟩ (by simp)
  obtain ⟨S, ⟨rfl, q1, q2⟩, _, _, o2⟩ := key.out
  exact o2 _ _ _ [h.n + i] [h.n + j] (free_ok _) (free_ok _) ⟨rfl, q1⟩ ⟨rfl, q2⟩ (Keep.refl _ _) (fun x hx => by simp at hx; simp [hx]) fun x hx => by simp at hx; subst hx; exact ⟨by simp, by simp; omega⟩
theorem Hs.fput {b : Nat} (k : Hs h0 (Free b :: L) h) (y : Blk) : Hs h0 (Cell b y :: L) (h.put b y) := k.step (cell_ok _ _) fun S ⟨e, k2⟩ => ⟨[b], ⟨rfl, get_put_same _ _ _, k2⟩, (Keep.refl h _).put (.inr (by rw [e]; simp)) y, fun x hx => .inl (by rw [e]; exact hx)⟩
/-- a block stands aside, whatever is done with the rest -/
theorem Hs.ne_of {b : Nat} {x : Blk} (k : Hs h0 (Cell b x :: c :: L) h) : ∃ S, c h S ∧ b ∉ S := by
  obtain ⟨S, _, k1, _, T, _, k2, k3, _⟩ := k
  refine ⟨T, k2, fun e => ?_⟩
  have := (k3 b e).2
  rw [k1.1] at this
  simp at this

theorem on2_W {E : Env} {S : FuncId → Option AV} {n : Nat} {f : FuncId} {args : List AV} {K K' : AV → H → Prop} (k : Spec E S n f args h K) (hk : ∀ v h', K v h' → K' v h') : on2 (callX E S n f args h) K' := k.on hk
/-! calls, at their heaps -/
theorem on2_ex {x : Option (AV × H)} {v : AV} {P : H → Prop} {K : AV → H → Prop} (k : ∃ h', x = some (v, h') ∧ P h') (hk : ∀ h', P h' → K v h') : on2 x K := by
  obtain ⟨h', e, p⟩ := k; rw [e, on2_some]; exact hk _ p
theorem on2_ex2 {x : Option (AV × H)} {P : AV → H → Prop} {K : AV → H → Prop} (k : ∃ v h', x = some (v, h') ∧ P v h') (hk : ∀ v h', P v h' → K v h') : on2 x K := by
  obtain ⟨v, h', e, p⟩ := k; rw [e, on2_some]; exact hk _ _ p
theorem on2_exb {α : Type} {g : α → AV} {x : Option (AV × H)} {P : α → H → Prop} {K : AV → H → Prop} (k : ∃ a h', x = some (g a, h') ∧ P a h') (hk : ∀ a h', P a h' → K (g a) h') : on2 x K := by
  obtain ⟨a, h', e, p⟩ := k; rw [e, on2_some]; exact hk _ _ p
theorem ask_of {b : Bool} {A B : Prop} (ha : A) (hb : B) : ask b A B := ⟨fun _ => ha, fun _ => hb⟩
theorem on2_eq {x : Option (AV × H)} {v : AV} {h' : H} {K : AV → H → Prop} (e : x = some (v, h')) (k : K v h') : on2 x K := by rw [e, on2_some]; exact k
theorem nth_part {l : List AV} {a n j : Nat} (hj : j < n) : nth ((l.drop a).take n) j = nth l (a + j) := by
  rw [nth_eq, nth_eq, List.getElem?_take_of_lt hj, List.getElem?_drop]

/-! what a caller hands in, cell by cell -/
theorem shl_nth {h : H} : ∀ (q : List Sh) (r : List AV) (i : Nat) (s : Sh), ShL h q r → nth q i = some s → ∃ v, nth r i = some v ∧ Sh1 h s v
  | [], r, i, s, _, k => by rw [nth_eq] at k; simp at k
  | s0 :: q, r, 0, s, ⟨v, r', e, h1, _⟩, k => by
    subst e
    rw [nth_zero] at k ⊢
    cases k; exact ⟨v, rfl, h1⟩
  | s0 :: q, r, i + 1, s, ⟨v, r', e, _, h2⟩, k => by
    subst e
    rw [nth_succ] at k ⊢
    exact shl_nth q r' i s h2 k
theorem shl_drop {h : H} : ∀ (n : Nat) {q : List Sh} {r : List AV}, ShL h q r → ShL h (q.drop n) (r.drop n)
  | 0, _, _, k => by simpa using k
  | n + 1, [], r, k => by have : r = [] := k; subst this; simpa using k
  | n + 1, s :: q, r, ⟨v, r', e, _, h2⟩ => by subst e; exact shl_drop n h2
theorem shl_take {h : H} : ∀ (n : Nat) {q : List Sh} {r : List AV}, ShL h q r → ShL h (q.take n) (r.take n)
  | 0, _, _, k => by simp [ShL]
  | n + 1, [], r, k => by have : r = [] := k; subst this; simpa using k
  | n + 1, s :: q, r, ⟨v, r', e, h1, h2⟩ => by subst e; exact ⟨v, r'.take n, by simp, h1, shl_take n h2⟩
def shFit : List FK → List Sh → Bool
  | [], _ => true
  | .i :: ks, .int .i64 :: q => shFit ks q
  | .s :: ks, .str :: q => shFit ks q
  | .b :: ks, .bool :: q => shFit ks q
  | _, _ => false
theorem fits_sh {h : H} : ∀ {ks : List FK} {q : List Sh} {r : List AV}, ShL h q r → shFit ks q = true → Fits ks (r.take ks.length)
  | [], _, _, _, _ => by simp [Fits]
  | k :: ks, [], _, _, e => by cases k <;> cases e
  | k :: ks, s :: q, _, ⟨v, r', e, h1, h2⟩, hf => by
    subst e
    have key : K1 k v ∧ shFit ks q = true := by
      cases k <;> cases s <;> first | (cases hf; done) | skip
      · rename_i kd
        cases kd <;> first | (cases hf; done) | skip
        obtain ⟨n, e, _⟩ := h1
        exact ⟨⟨n, e⟩, hf⟩
      · obtain ⟨b, e⟩ := h1
        exact ⟨⟨b, e⟩, hf⟩
      · obtain ⟨s, e, _⟩ := h1
        exact ⟨⟨s, e⟩, hf⟩
    exact ⟨v, r'.take ks.length, by simp, key.1, fits_sh h2 key.2⟩
theorem fits_nth : ∀ {ks : List FK} {l : List AV} {j : Nat} {k : FK}, Fits ks l → ks[j]? = some k → ∃ v, nth l j = some v ∧ K1 k v
  | [], _, _, _, _, h => by simp at h
  | k0 :: ks, _, 0, k, ⟨v, r, e, h1, _⟩, h => by subst e; simp at h; subst h; exact ⟨v, rfl, h1⟩
  | k0 :: ks, _, j + 1, k, ⟨v, r, e, _, h2⟩, h => by subst e; rw [nth_succ]; exact fits_nth h2 (by simpa using h)
theorem Fits.length : ∀ {ks : List FK} {l : List AV}, Fits ks l → l.length = ks.length
  | [], _, k => by have := k; simp [Fits] at this; subst this; rfl
  | _ :: _, _, ⟨v, r, e, _, h2⟩ => by subst e; simp [Fits.length h2]
theorem Fits.append : ∀ {a b : List FK} {x y : List AV}, Fits a x → Fits b y → Fits (a ++ b) (x ++ y)
  | [], _, x, y, h, k => by have : x = [] := h; subst this; exact k
  | k0 :: a, b, _, y, ⟨v, r, e, h1, h2⟩, k => by subst e; exact ⟨v, r ++ y, rfl, h1, Fits.append h2 k⟩
theorem Fits.drop : ∀ (n : Nat) {ks : List FK} {l : List AV}, Fits ks l → Fits (ks.drop n) (l.drop n)
  | 0, _, _, k => by simpa using k
  | n + 1, [], l, k => by have : l = [] := k; subst this; simpa using k
  | n + 1, _ :: _, _, ⟨v, r, e, _, h2⟩ => by subst e; exact Fits.drop n h2
theorem Fits.take : ∀ (n : Nat) {ks : List FK} {l : List AV}, Fits ks l → Fits (ks.take n) (l.take n)
  | 0, _, _, k => by simp [Fits]
  | n + 1, [], l, k => by have : l = [] := k; subst this; simpa using k
  | n + 1, _ :: _, _, ⟨v, r, e, h1, h2⟩ => by subst e; exact ⟨v, r.take n, by simp, h1, Fits.take n h2⟩
theorem Fits.same : ∀ {ks : List FK} {l : List AV}, Fits ks l → sameL l l = true
  | [], l, k => by have : l = [] := k; subst this; rfl
  | k0 :: ks, _, ⟨v, r, e, h1, h2⟩ => by
    subst e
    have hv : sameV v v = true := by
      cases k0 <;> obtain ⟨n, rfl⟩ := h1 <;> simp [sameV]
    simp only [sameL, hv, Fits.same h2, Bool.and_self]
/-- a cell's number -/
noncomputable def cI (x : List AV) (j : Nat) : Int := match nth x j with
  | some (.int _ n) => n
  | _ => 0
theorem Fits.int {ks : List FK} {l : List AV} (k : Fits ks l) (j : Nat) (hj : ks[j]? = some .i) : nth l j = some (.int .i64 (cI l j)) := by
  obtain ⟨v, e, n, rfl⟩ := fits_nth k hj
  unfold cI; rw [e]
theorem same_sh {h : H} : ∀ {q : List Sh} {r : List AV}, ShL h q r → sameL r r = true
  | [], r, k => by have : r = [] := k; subst this; rfl
  | s :: q, r, ⟨v, r', e, h1, h2⟩ => by
    subst e
    have hv : sameV v v = true := by
      cases s with
      | int k => obtain ⟨n, rfl, _⟩ := h1; exact same_int _ _
      | str => obtain ⟨n, rfl, _⟩ := h1; exact same_str _
      | bool => obtain ⟨n, rfl⟩ := h1; exact same_bool _
      | sl es q =>
        rcases h1 with rfl | rfl | ⟨b, rs, cap, rfl, _⟩
        · rfl
        · rfl
        · exact same_sl _ _ _ _
    simp only [sameL, hv, same_sh h2, Bool.and_self]
theorem lenS_sh' {h : H} {es : Nat} {q : List Sh} {v : AV} (k : Sh1 h (.sl es q) v) : ∃ n, lenS v = some n := by
  rcases k with rfl | rfl | ⟨b, rs, cap, rfl, _⟩
  · exact ⟨_, rfl⟩
  · exact ⟨_, rfl⟩
  · exact ⟨_, rfl⟩
theorem takeN_some {l : List AV} {c n : Nat} (h : c + n ≤ l.length) : takeN n (dropN c l) = some ((l.drop c).take n) := by
  rw [takeN_eq, dropN_eq]; exact ⟨by simp; omega, rfl⟩

theorem overS_ok {n : Nat} {cs : List AV} {off : Nat} {cur : List AV} (h : cs.length = n) : overS n cs off cur = atN (over cs) off cur := by
  have : Nat.beq (lenN cs) n = true := by rw [lenN_eq, h]; exact Nat.beq_refl n
  simp only [overS, this]

/-- writing within a list of cells -/
theorem atN_put {cs r : List AV} {c : Nat} (h : c + cs.length ≤ r.length) : atN (over cs) c r = some (r.take c ++ cs ++ r.drop (c + cs.length)) := by
  rw [atN_eq]
  refine ⟨by omega, cs ++ (r.drop c).drop cs.length, ?_, by rw [List.drop_drop, List.append_assoc]⟩
  rw [over_eq]; exact ⟨by simp; omega, rfl⟩

/-! a grown list -/
def LsC (es : Nat) (v : AV) (rs : List (List AV)) : Ch := fun h S => Lst h es v rs S ∧ v.one = true
theorem lsc_ok (es : Nat) (v : AV) (rs : List (List AV)) : Ok (LsC es v rs) := ⟨fun k => k.1.lt, fun k hk hd => ⟨k.1.keep hk hd, k.2⟩⟩
theorem Hs.sl {es : Nat} {v : AV} {rs : List (List AV)} (k : Hs h0 (LsC es v rs :: L) h) : SlR h es v rs := by obtain ⟨S, k, _⟩ := k.read; exact k.1.sl
theorem Hs.blt {es : Nat} {v : AV} {rs : List (List AV)} (k : Hs h0 (LsC es v rs :: L) h) : ∀ x, blkOf v = some x → x < h.n := by obtain ⟨S, k, _⟩ := k.read; exact k.1.blt
theorem Hs.samev {es : Nat} {v : AV} {rs : List (List AV)} (k : Hs h0 (LsC es v rs :: L) h) : sameV v v = true := by
  obtain ⟨S, k, _⟩ := k.read
  rcases k.1 with ⟨_, rfl | ⟨b, rfl, _⟩, _⟩ | ⟨b, p, pre, rfl, _⟩
  · rfl
  · exact same_sl _ _ _ _
  · exact same_so _ _ _ _
theorem Hs.one {es : Nat} {v : AV} {rs : List (List AV)} (k : Hs h0 (LsC es v rs :: L) h) : v.one = true := by obtain ⟨S, k, _⟩ := k.read; exact k.2
theorem Hs.nil (k : Hs h0 L h) (es : Nat) : Hs h0 (LsC es .nils [] :: L) h := k.add (lsc_ok ..) (Keep.refl h _) (S' := []) ⟨Lst.nil h es, rfl⟩ (by simp)
theorem Hs.app {es : Nat} {v : AV} {rs : List (List AV)} (k : Hs h0 (LsC es v rs :: L) h) (hes : 0 < es) {x : AV} {r0 : List AV} {new : List (List AV)} (bytes : Nat) (hx : rowsOf h es x = some (r0 :: new))
    (h1 : (rs.length + (new.length + 1)) * bytes ≤ 1099511627776) (h2 : rs.length + (new.length + 1) ≤ 1099511627776) :
    ∃ v' h', appendOp h es bytes v x = some (v', h') ∧ Hs h0 (LsC es v' (rs ++ r0 :: new) :: L) h' ∧ h.n ≤ h'.n := by
  obtain ⟨S, q, _⟩ := k.read
  obtain ⟨v', h', S', a1, a2, a3, a4, a5⟩ := q.1.app hes bytes hx h1 h2
  refine ⟨v', h', a1, k.step (lsc_ok ..) fun T qT => ?_, a3.1⟩
  obtain ⟨v'', h'', T', b1, b2, b3, b4, b5⟩ := qT.1.app hes bytes hx h1 h2
  rw [a1] at b1; cases b1
  exact ⟨T', ⟨b2, b5⟩, b3, b4⟩
/-- writing within an element -/
theorem Lst.set {es : Nat} {v : AV} {rs : List (List AV)} {S : List Nat} (k : Lst h es v rs S) {i : Nat} {r : List AV} (hi : rs[i]? = some r) (hr : r.length = es) {c : Nat} {cs : List AV} (hc : c + cs.length ≤ es) (hc0 : c < es) :
    ∃ b o h', idxS es v (i : Int) = some (b, o) ∧ storeB h b (o + c) cs (h.get b) = some h' ∧ Lst h' es v (rs.set i (r.take c ++ cs ++ r.drop (c + cs.length))) S ∧ Keep h h' S ∧ h'.n = h.n := by
  have hlt : i < rs.length := (List.getElem?_eq_some_iff.1 hi).1
  rcases k with ⟨rfl, _⟩ | ⟨b, p, pre, rfl, k1, k2, k3, k4, k5⟩
  · simp at hlt
  · have q1 : ((pre.length + i) * es + c) % es = c := by rw [Nat.add_comm, Nat.add_mul_mod_self_right, Nat.mod_eq_of_lt hc0]
    have q2 : ((pre.length + i) * es + c) / es = pre.length + i := by rw [Nat.add_comm, Nat.add_mul_div_right _ _ k2, Nat.div_eq_of_lt hc0, Nat.zero_add]
    have hd : (pre ++ rs).drop (pre.length + i) = r :: rs.drop (i + 1) := by
      rw [List.drop_append, List.drop_eq_nil_of_le (as := pre) (by omega), List.nil_append, Nat.add_sub_cancel_left, List.drop_eq_getElem_cons hlt]
      congr 1
      rw [List.getElem?_eq_getElem hlt] at hi; cases hi; rfl
    have hst : storeG ((pre.length + i) * es + c) cs es (pre ++ rs) = some (pre ++ rs.set i (r.take c ++ cs ++ r.drop (c + cs.length))) := by
      unfold storeG
      rw [q1, q2, atN_eq]
      refine ⟨by simp; omega, (r.take c ++ cs ++ r.drop (c + cs.length)) :: rs.drop (i + 1), ?_, ?_⟩
      · rw [hd]
        have : atN (over cs) c r = some (r.take c ++ cs ++ r.drop (c + cs.length)) := by
          rw [atN_eq]
          refine ⟨by omega, cs ++ (r.drop c).drop cs.length, ?_, by rw [List.drop_drop, List.append_assoc]⟩
          rw [over_eq]; exact ⟨by simp; omega, rfl⟩
        simp only [this]
      · rw [List.take_append, List.take_of_length_le (l := pre) (by omega), Nat.add_sub_cancel_left, List.set_eq_take_append_cons_drop, if_pos hlt]; simp only [List.append_assoc]
    refine ⟨b, (pre.length + i) * es, ((h.kill p).put b (.rows es (pre ++ rs.set i (r.take c ++ cs ++ r.drop (c + cs.length))) false none none)), ?_, ?_, ?_, ?_, ?_⟩
    · simp only [idxS, natOf_ofNat, blt_t hlt, Nat.beq_refl]
    · rw [k1]
      cases p with
      | none => simp only [storeB, hst]; rfl
      | some p => simp only [storeB, hst]; rfl
    · refine .inr ⟨b, none, pre, ?_, get_put_same _ _ _, k2, k3, by simp, fun x hx => by rw [hn_put, H.n_kill]; exact k5 x hx⟩
      simp
    · exact (keep_kill (Keep.refl h S) fun x hx => .inr (k4 x hx).1).put (.inr k3) _
    · rw [hn_put, H.n_kill]
theorem Hs.set {es : Nat} {v : AV} {rs : List (List AV)} (k : Hs h0 (LsC es v rs :: L) h) {i : Nat} {r : List AV} (hi : rs[i]? = some r) (hr : r.length = es) {c : Nat} {cs : List AV} (hc : c + cs.length ≤ es) (hc0 : c < es) :
    ∃ b o h', idxS es v (i : Int) = some (b, o) ∧ storeB h b (o + c) cs (h.get b) = some h' ∧ Hs h0 (LsC es v (rs.set i (r.take c ++ cs ++ r.drop (c + cs.length))) :: L) h' ∧ h'.n = h.n := by
  obtain ⟨S, q, _, o1, _⟩ := k.out
  obtain ⟨b, o, h', a1, a2, a3, a4, a5⟩ := q.1.set hi hr hc hc0
  exact ⟨b, o, h', a1, a2, o1 _ h' S (lsc_ok ..) ⟨a3, q.2⟩ a4 fun x hx => .inl hx, a5⟩
/-- a slice's type: its elements have so many cells -/
noncomputable def slIs (tt : T TI) (t es : Nat) : Bool :=
  match tt.get t with
  | some ti => match ti.k with
    | .slice e => match tt.get e with
      | some te => Nat.beq te.size es
      | none => false
    | _ => false
  | none => false
/-- a grown list, cut in two -/
theorem Lst.cut {tt : T TI} {t es : Nat} (ht : slIs tt t es = true) {v : AV} {rs : List (List AV)} {S : List Nat} (k : Lst h es v rs S) {i : Nat} (hi : i ≤ rs.length) :
    ∃ a b, sliceOp tt t v none (some (i : Int)) none = some a ∧ sliceOp tt t v (some (i : Int)) none none = some b ∧ SlR h es a (rs.take i) ∧ Lst h es b (rs.drop i) S ∧ (∀ x, blkOf a = some x → x < h.n) ∧ ((∀ x, blkOf a = some x → x ∈ S) ∨ (rs = [] ∧ ∀ h', SlR h' es a [])) ∧ a.one = true ∧ b.one = true := by
  unfold slIs at ht
  split at ht
  · rename_i ti hti
    split at ht
    · rename_i e he
      split at ht
      · rename_i te hte
        have hes := Nat.eq_of_beq_eq_true ht
        rcases k with ⟨rfl, rfl | ⟨b, rfl, hb⟩, rfl⟩ | ⟨b, p, pre, rfl, k1, k2, k3, k4, k5⟩
        · have : i = 0 := by simpa using hi
          subst this
          refine ⟨.nils, .nils, ?_, ?_, .inl ⟨rfl, .inl rfl⟩, Lst.nil h es, (fun x hx => by cases hx), .inl (fun x hx => by cases hx), rfl, rfl⟩
          · simp only [sliceOp, hti, he, hte]; rfl
          · simp only [sliceOp, hti, he, hte]; rfl
        · have : i = 0 := by simpa using hi
          subst this
          refine ⟨.sl b 0 0 0, .sl b 0 0 0, ?_, ?_, .inl ⟨rfl, .inr (.inr ⟨b, 0, rfl⟩)⟩, Lst.emp h es b hb, (fun x hx => by cases hx; exact hb), .inr ⟨rfl, fun h' => .inl ⟨rfl, .inr (.inr ⟨b, 0, rfl⟩)⟩⟩, rfl, rfl⟩
          · simp only [sliceOp, hti, he, hte]; rfl
          · simp only [sliceOp, hti, he, hte]; rfl
        · have e1 : bounds rs.length rs.length none (some (i : Int)) none = some (0, i, rs.length) := by
            simp only [bounds, natOf_ofNat, ble_t (Nat.le_refl rs.length), ble_t hi, ble_t (Nat.zero_le i)]
          have e2 : bounds rs.length rs.length (some (i : Int)) none none = some (i, rs.length, rs.length) := by
            simp only [bounds, natOf_ofNat, ble_t (Nat.le_refl rs.length), ble_t hi]
          have hb : Nat.beq te.size es = true := ht
          refine ⟨.so b (pre.length + 0) (i - 0) es, .so b (pre.length + i) (rs.length - i) es, ?_, ?_, ?_, ?_, (fun x hx => by cases hx; exact k5 b k3), .inl (fun x hx => by cases hx; exact k3), rfl, rfl⟩
          · simp only [sliceOp, hti, he, hte, hb, e1]
          · simp only [sliceOp, hti, he, hte, hb, e2]
          · refine .inr ⟨b, pre.length, pre ++ rs, false, p, none, k1, k2, .inr (by simp [List.length_take, Nat.min_eq_left hi]), fun j hj => ?_⟩
            rw [List.length_take] at hj
            rw [List.getElem?_append_right (by omega), List.getElem?_take_of_lt (by omega)]
            congr 1; omega
          · refine .inr ⟨b, p, pre ++ rs.take i, ?_, ?_, k2, k3, k4, k5⟩
            · simp [List.length_take, Nat.min_eq_left hi]
            · rw [k1, List.append_assoc, List.take_append_drop]
      · cases ht
    · cases ht
  · cases ht
/-- the rows of a slice that is read -/
theorem rows_sl {v : AV} {es : Nat} {rs : List (List AV)} (k : SlR h es v rs) (hes : 0 < es) : rowsOf h es v = some rs := by
  obtain ⟨e, rfl⟩ : ∃ e, es = e + 1 := ⟨es - 1, by omega⟩
  rcases k with ⟨rfl, rfl | rfl | ⟨b, c, rfl⟩⟩ | ⟨b, i0, all, ro, p, q, k1, k2, k3, k4⟩
  · rfl
  · rfl
  · simp only [rowsOf, slRow, Nat.zero_mod, Nat.zero_div]
  · have hs : slRow (e + 1) v = some (b, i0, rs.length) := by
      rcases k3 with ⟨cap, rfl⟩ | rfl
      · simp only [slRow, Nat.mul_mod_left, Nat.mul_div_cancel _ k2]
      · simp only [slRow, Nat.beq_refl]
    have ht : takeN rs.length (dropN i0 all) = some rs := by
      rw [takeN_eq, dropN_eq]
      have hx : ∀ i, i < rs.length → (all.drop i0)[i]? = rs[i]? := fun i hi => by rw [List.getElem?_drop]; exact k4 i hi
      have hlen : rs.length ≤ (all.drop i0).length := by
        by_cases hz : rs.length = 0
        · omega
        · have := hx (rs.length - 1) (by omega)
          rw [List.getElem?_eq_getElem (show rs.length - 1 < rs.length by omega)] at this
          have := (List.getElem?_eq_some_iff.1 this).1
          omega
      refine ⟨hlen, ?_⟩
      refine List.ext_getElem? fun i => ?_
      by_cases hi : i < rs.length
      · rw [List.getElem?_take_of_lt hi, hx i hi]
      · rw [List.getElem?_eq_none (l := rs) (by omega), List.getElem?_eq_none (by rw [List.length_take]; omega)]
    have hb : rowsOf h (e + 1) v = match rs.length with
      | 0 => some []
      | _ + 1 => match h.get b with
        | some (.rows es rs' _ _ _) => match Nat.beq es (e + 1) with
          | true => takeN rs.length (dropN i0 rs')
          | false => none
        | _ => none := by
      rcases k3 with ⟨cap, rfl⟩ | rfl
      · simp only [rowsOf]; rw [hs]; cases rs.length <;> rfl
      · simp only [rowsOf]; rw [hs]; cases rs.length <;> rfl
    rw [hb]
    cases rs with
    | nil => rfl
    | cons r0 rs => simp only [List.length_cons, k1, Nat.beq_refl]; exact ht
/-- all of a slice, behind none: a list of one's own -/
theorem Hs.clone {es : Nat} {v x : AV} {rs : List (List AV)} (k : Hs h0 L h) (hes : 0 < es) (bytes : Nat) (hv : v = .nils ∨ ∃ b, v = .sl b 0 0 0 ∧ b < h.n) (hx : SlR h es x rs)
    (h1 : rs.length * bytes ≤ 1099511627776) (h2 : rs.length ≤ 1099511627776) :
    ∃ v' h', appendOp h es bytes v x = some (v', h') ∧ Hs h0 (LsC es v' rs :: L) h' ∧ Keep h h' [] ∧ (v = .nils → v' = .nils ∨ rs ≠ []) := by
  have hr := rows_sl hx hes
  have hl : Lst h es v [] [] := by
    rcases hv with rfl | ⟨b, rfl, hb⟩
    · exact Lst.nil h es
    · exact Lst.emp h es b hb
  have ho : v.one = true := by rcases hv with rfl | ⟨b, rfl, _⟩ <;> rfl
  cases rs with
  | nil =>
    refine ⟨v, h, ?_, k.add (lsc_ok ..) (Keep.refl h _) (S' := []) ⟨hl, ho⟩ (by simp), Keep.refl h _, fun e => .inl e⟩
    obtain ⟨e, rfl⟩ : ∃ e, es = e + 1 := ⟨es - 1, by omega⟩
    rcases hv with rfl | ⟨b, rfl, _⟩
    · simp only [appendOp, hr]
    · simp only [appendOp, hr]
  | cons r0 rs =>
    obtain ⟨v', h', S', a1, a2, a3, a4, a5⟩ := hl.app hes bytes hr (by simpa using h1) (by simpa using h2)
    refine ⟨v', h', a1, k.add (lsc_ok ..) a3 (S' := S') ⟨by simpa using a2, a5⟩ fun x hx => ?_, a3, fun _ => .inr (by simp)⟩
    rcases a4 x hx with h | h
    · simp at h
    · exact h
end
end Go.Abs.W
