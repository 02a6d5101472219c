/-
  WHAT A CALLER HANDS IN, LAID ON THE ABSTRACT HEAP: each slice a block that is only read.
-/
import Derived.Test.YtdncenepmkbolaaAbsK
namespace Go.Abs
open Go Go.ChangeShapes Go.WideShapes Go.ChangeAt Go.RowKit

/-- the shape of a cell that a caller hands in -/
inductive Sh where
  | int (k : IntKind)
  | str
  | bool
  | sl (es : Nat) (q : List Sh)

def shsN (n : Nat) (q : List Sh) : List Sh :=
  match n with
  | 0 => []
  | n + 1 => q ++ shsN n q

def shapeOf (P : Program) : Nat → TypeId → Option (List Sh)
  | 0, _ => none
  | d + 1, t => match P.underlying t with
    | some .bool => some [.bool]
    | some (.int k) => some [.int k]
    | some .string => some [.str]
    | some (.slice e) => match shapeOf P d e with
      | some q => match Nat.beq (P.cellsOf e) q.length, q with
        | true, _ :: _ => some [.sl q.length q]
        | _, _ => none
      | none => none
    | some (.struct fs) => match flds (shapeOf P d) P fs.toList 0 with
      | some q => match Nat.beq (P.cellsOf t) q.length with
        | true => some q
        | false => none
      | none => none
    | some (.array n e) => match shapeOf P d e with
      | some q => match Nat.beq (P.cellsOf e) q.length, Nat.beq (P.cellsOf t) (shsN n q).length with
        | true, true => some (shsN n q)
        | _, _ => none
      | none => none
    | _ => none
where
  flds (f : TypeId → Option (List Sh)) (P : Program) : List Field → Nat → Option (List Sh)
    | [], _ => some []
    | x :: r, o => match Nat.beq x.offset o, f x.type with
      | true, some q => match Nat.beq (P.cellsOf x.type) q.length with
        | true => match flds f P r (o + q.length) with
          | some l => some (q ++ l)
          | none => none
        | false => none
      | _, _ => none

mutual
/-- a cell of a shape, on a heap -/
def Sh1 (h : Go.Abs.H) : Sh → AV → Prop
  | .int k, v => ∃ n : Int, v = .int k n ∧ k.min ≤ n ∧ n ≤ k.max
  | .str, v => ∃ s, v = .str s ∧ s.length ≤ 9223372036854775807
  | .bool, v => ∃ b, v = .bool b
  | .sl es q, v => v = .nils ∨ v = .top .emp ∨ ∃ b rs cap, v = .sl b 0 rs.length cap ∧ h.get b = some (.rows es rs true none none) ∧ 0 < rs.length ∧ rs.length ≤ cap ∧ cap ≤ 9223372036854775807 ∧ ∀ r ∈ rs, ShL h q r
def ShL (h : Go.Abs.H) : List Sh → List AV → Prop
  | [], l => l = []
  | s :: q, l => ∃ v r, l = v :: r ∧ Sh1 h s v ∧ ShL h q r
end

/-- what was there stays; all blocks are only read -/
def HExt (h h' : Go.Abs.H) : Prop := h.n ≤ h'.n ∧ ∀ b, b < h.n → h'.get b = h.get b
theorem HExt.refl (h : Go.Abs.H) : HExt h h := ⟨Nat.le_refl _, fun _ _ => rfl⟩
theorem HExt.trans {a b c : Go.Abs.H} (h : HExt a b) (k : HExt b c) : HExt a c :=
  ⟨Nat.le_trans h.1 k.1, fun x hx => (k.2 x (Nat.lt_of_lt_of_le hx h.1)).trans (h.2 x hx)⟩

/-- blocks lie below the count -/
def HOk (h : Go.Abs.H) : Prop := ∀ b x, h.get b = some x → b < h.n ∧ x.mine = false ∧ x.prev = none ∧ x.next = none

mutual
theorem Sh1.mono {h h' : Go.Abs.H} (ho : HOk h) (he : HExt h h') : ∀ (s : Sh) (v : AV), Sh1 h s v → Sh1 h' s v
  | .int _, _, k => k
  | .str, _, k => k
  | .bool, _, k => k
  | .sl es q, v, k => by
    rcases k with k | k | ⟨b, rs, cap, k1, k2, k3, k4, k5, k6⟩
    · exact .inl k
    · exact .inr (.inl k)
    · exact .inr (.inr ⟨b, rs, cap, k1, by rw [he.2 b (ho b _ k2).1]; exact k2, k3, k4, k5, fun r hr => ShL.mono ho he q r (k6 r hr)⟩)
theorem ShL.mono {h h' : Go.Abs.H} (ho : HOk h) (he : HExt h h') : ∀ (q : List Sh) (l : List AV), ShL h q l → ShL h' q l
  | [], _, k => k
  | s :: q, l, k => by
    obtain ⟨v, r, k1, k2, k3⟩ := k
    exact ⟨v, r, k1, Sh1.mono ho he s v k2, ShL.mono ho he q r k3⟩
end

theorem ShL.length {h : Go.Abs.H} : ∀ {q : List Sh} {l : List AV}, ShL h q l → l.length = q.length
  | [], _, k => by subst k; rfl
  | s :: q, _, k => by obtain ⟨v, r, rfl, _, k3⟩ := k; simp [ShL.length k3]
theorem ShL.append {h : Go.Abs.H} : ∀ {p q : List Sh} {l m : List AV}, ShL h p l → ShL h q m → ShL h (p ++ q) (l ++ m)
  | [], _, _, _, k, k' => by subst k; exact k'
  | s :: p, q, _, m, k, k' => by
    obtain ⟨v, r, rfl, k2, k3⟩ := k
    exact ⟨v, r ++ m, rfl, k2, ShL.append k3 k'⟩

section
variable {H : Type} {enc : TypeId × Value → H} {P : Program} {w : World} {sp : Nat → Bool}

/-- these cells can be laid on any heap of blocks that are only read -/
def Laid (w : World) (q : List Sh) (cs : List Value) : Prop :=
  ∀ (ρ : Pl) (h : Go.Abs.H), R ρ h w → HOk h → ∃ ρ' h' l, Ext ρ ρ' ∧ R ρ' h' w ∧ HOk h' ∧ HExt h h' ∧ VL ρ' l cs ∧ ShL h' q l

theorem Laid.nil (w : World) : Laid w [] [] := fun ρ h hr ho => ⟨ρ, h, [], Ext.refl _, hr, ho, HExt.refl _, rfl, rfl⟩
theorem Laid.append {p q : List Sh} {cs ds : List Value} (a : Laid w p cs) (b : Laid w q ds) : Laid w (p ++ q) (cs ++ ds) := fun ρ h hr ho => by
  obtain ⟨ρ1, h1, l1, e1, r1, o1, x1, v1, c1⟩ := a ρ h hr ho
  obtain ⟨ρ2, h2, l2, e2, r2, o2, x2, v2, c2⟩ := b ρ1 h1 r1 o1
  exact ⟨ρ2, h2, l1 ++ l2, e1.trans e2, r2, o2, x1.trans x2, VL.append (VL.mono e2 _ _ v1) v2, ShL.append (ShL.mono o1 x2 _ _ c1) c2⟩
theorem Laid.one {s : Sh} {v : Value} (hv : ∀ (ρ : Pl) (h : Go.Abs.H), ∃ a, VS ρ a v ∧ Sh1 h s a) : Laid w [s] [v] := fun ρ h hr ho => by
  obtain ⟨a, h1, h2⟩ := hv ρ h
  exact ⟨ρ, h, [a], Ext.refl _, hr, ho, HExt.refl _, ⟨v, [], h1, rfl, rfl⟩, ⟨a, [], rfl, h2, rfl⟩⟩

theorem flds_laid {fuel d : Nat} {cs : List Value} (ih : ∀ (t : TypeId) (cs : List Value) (x : DataW H × List MemPlace) (q : List Sh), DataW.trod enc P w 0 sp true fuel t cs = some x → shapeOf P d t = some q → Laid w q cs) :
    ∀ (fs : List Field) (o : Nat) (q : List Sh), shapeOf.flds (shapeOf P d) P fs o = some q →
      (∀ f ∈ fs, ∃ x, DataW.trod enc P w 0 sp true fuel f.type ((cs.drop f.offset).take (P.cellsOf f.type)) = some x) → o + q.length = cs.length → Laid w q (cs.drop o)
  | [], o, q, h, _, hl => by
    simp only [shapeOf.flds, Option.some.injEq] at h; subst h
    have : cs.drop o = [] := List.drop_eq_nil_of_le (by simp at hl; omega)
    rw [this]; exact Laid.nil w
  | f :: fs, o, q, h, hf, hl => by
    simp only [shapeOf.flds] at h
    split at h
    · rename_i p ho hq
      split at h
      · rename_i hp
        split at h
        · rename_i r hr
          cases h
          have ho' : f.offset = o := Nat.eq_of_beq_eq_true ho
          have hp' := Nat.eq_of_beq_eq_true hp
          obtain ⟨x, hx⟩ := hf f (by simp)
          have h1 := ih _ _ _ _ hx hq
          rw [ho', hp'] at h1
          have h2 := flds_laid ih fs (o + p.length) r hr (fun g hg => hf g (by simp [hg])) (by simp at hl; omega)
          have e : cs.drop o = (cs.drop o).take p.length ++ cs.drop (o + p.length) := by
            rw [← List.drop_drop]; exact (List.take_append_drop _ _).symm
          rw [e]
          exact Laid.append h1 h2
        · cases h
      · cases h
    · cases h

theorem elems_laid {cs : List Value} {q : List Sh} : ∀ (n o : Nat), (∀ i, i < n → Laid w q ((cs.drop (o + i * q.length)).take q.length)) → o + (shsN n q).length = cs.length → Laid w (shsN n q) (cs.drop o)
  | 0, o, _, hl => by
    have : cs.drop o = [] := List.drop_eq_nil_of_le (by simp [shsN] at hl; omega)
    rw [this]; exact Laid.nil w
  | n + 1, o, hf, hl => by
    have h1 := hf 0 (by omega)
    rw [Nat.zero_mul, Nat.add_zero] at h1
    have h2 := elems_laid (cs := cs) (q := q) n (o + q.length) (fun i hi => by
      have := hf (i + 1) (by omega)
      rw [show o + q.length + i * q.length = o + (i + 1) * q.length by rw [Nat.succ_mul]; omega]
      exact this) (by simp [shsN] at hl; omega)
    have e : cs.drop o = (cs.drop o).take q.length ++ cs.drop (o + q.length) := by
      rw [← List.drop_drop]; exact (List.take_append_drop _ _).symm
    rw [e, shsN]
    exact Laid.append h1 h2

/-- a block that is only read, at memory that is there -/
theorem R.birth_ro {ρ : Pl} {h : Go.Abs.H} {l : Loc} {es : Nat} {rs : List (List AV)} (hr : R ρ h w) (ho : HOk h) (hl : l.blk < w.heap.size) (hok : RowsOk ρ w l es rs) :
    R (ρ.add h.n l) (h.new (.rows es rs true none none)) w ∧ HOk (h.new (.rows es rs true none none)) ∧ HExt h (h.new (.rows es rs true none none)) := by
  have hb : ρ h.n = none := (hr.fresh h.n (Nat.le_refl _)).2
  have he := Pl.ext_add (ρ := ρ) (l := l) hb
  have hg : ∀ c, c ≠ h.n → (h.new (.rows es rs true none none)).get c = h.get c := fun c hc => by
    show (h.t.put h.n _).get c = _
    rw [T.get_put, if_neg hc]; rfl
  have hgn : (h.new (.rows es rs true none none)).get h.n = some (.rows es rs true none none) := by
    show (h.t.put h.n _).get h.n = _
    rw [T.get_put, if_pos rfl]
  have hnn : (h.new (.rows es rs true none none)).n = h.n + 1 := rfl
  have hρ : ∀ c m, c ≠ h.n → ρ.add h.n l c = some m → ρ c = some m := fun c m hc h1 => by simpa [Pl.add, hc] using h1
  have hρb : ∀ m, ρ.add h.n l h.n = some m → m = l := fun m h1 => by simpa [Pl.add, eq_comm] using h1
  have hO : HOk (h.new (.rows es rs true none none)) := fun b x hx => by
    by_cases hc : b = h.n
    · subst hc
      rw [hgn] at hx
      cases hx
      exact ⟨by rw [hnn]; omega, rfl, rfl, rfl⟩
    · rw [hg b hc] at hx
      obtain ⟨k1, k2⟩ := ho b x hx
      exact ⟨by rw [hnn]; omega, k2⟩
  refine ⟨⟨fun c m y h1 h2 => ?_, fun c d m k y z hcd h1 h2 h3 h4 h5 h6 h7 => ?_, fun c hc => ?_, fun c m h1 => ?_, fun c m y d h1 h2 h3 => ?_⟩, hO, by rw [hnn]; omega, fun b hb' => hg b (by omega)⟩
  · by_cases hc : c = h.n
    · subst hc
      rw [hρb _ h1]; rw [hgn] at h2; cases h2
      exact ⟨⟨hok.width, fun i j r v hi hj => by obtain ⟨u, q1, q2⟩ := hok.cell i j r v hi hj; exact ⟨u, VS.mono he _ _ q1, q2⟩⟩, fun e => by cases e⟩
    · rw [hg c hc] at h2
      have := hρ c m hc h1
      exact (hr.blk _ _ _ this h2).keep he rfl
  · exact .inl ⟨(hO c y h3).2.1, (hO d z h4).2.1⟩
  · have hc' : c ≠ h.n := fun e => by rw [hnn] at hc; omega
    obtain ⟨k1, k2⟩ := hr.fresh c (by rw [hnn] at hc; omega)
    exact ⟨by rw [hg c hc']; exact k1, by simp [Pl.add, hc', k2]⟩
  · by_cases hc : c = h.n
    · subst hc; rw [hρb _ h1]; exact hl
    · exact hr.inh c m (hρ c m hc h1)
  · obtain ⟨_, _, k1, k2⟩ := hO c y h2
    rw [k1, k2] at h3
    rcases h3 with h3 | h3 <;> cases h3

/-- the rows of a slice, laid one behind the other -/
theorem rows_laid {q : List Sh} {f : Nat → Option (List Value)} : ∀ (n : Nat), (∀ i, i < n → ∃ cs, f i = some cs ∧ Laid w q cs) →
    ∀ (ρ : Pl) (h : Go.Abs.H), R ρ h w → HOk h → ∃ (ρ' : Pl) (h' : Go.Abs.H) (rs : List (List AV)), Ext ρ ρ' ∧ R ρ' h' w ∧ HOk h' ∧ HExt h h' ∧ rs.length = n ∧ (∀ r ∈ rs, ShL h' q r) ∧ ∀ (i : Nat) (r : List AV), rs[i]? = some r → ∃ cs, f i = some cs ∧ VL ρ' r cs
  | 0, _, ρ, h, hr, ho => ⟨ρ, h, [], Ext.refl _, hr, ho, HExt.refl _, rfl, by simp, by simp⟩
  | n + 1, hf, ρ, h, hr, ho => by
    obtain ⟨ρ1, h1, rs, e1, r1, o1, x1, l1, c1, v1⟩ := rows_laid n (fun i hi => hf i (by omega)) ρ h hr ho
    obtain ⟨cs, hcs, hlaid⟩ := hf n (by omega)
    obtain ⟨ρ2, h2, r, e2, r2, o2, x2, v2, c2⟩ := hlaid ρ1 h1 r1 o1
    refine ⟨ρ2, h2, rs ++ [r], e1.trans e2, r2, o2, x1.trans x2, by simp [l1], ?_, ?_⟩
    · intro r' hr'
      rcases List.mem_append.1 hr' with hr' | hr'
      · exact ShL.mono o1 x2 _ _ (c1 r' hr')
      · have : r' = r := by simpa using hr'
        rw [this]; exact c2
    · intro i r' hi
      rw [List.getElem?_append] at hi
      split at hi
      · obtain ⟨cs', k1, k2⟩ := v1 i r' hi
        exact ⟨cs', k1, VL.mono e2 _ _ k2⟩
      · rename_i hlt
        have hi0 : i - rs.length = 0 := by
          rcases Nat.eq_zero_or_pos (i - rs.length) with h | h
          · exact h
          · rw [List.getElem?_eq_none (by simp; omega)] at hi; cases hi
        rw [hi0] at hi
        simp at hi
        subst hi
        have : i = n := by omega
        subst this
        exact ⟨cs, hcs, v2⟩

theorem trod_laid : ∀ (d fuel : Nat) (t : TypeId) (cs : List Value) (x : DataW H × List MemPlace) (q : List Sh), DataW.trod enc P w 0 sp true fuel t cs = some x → shapeOf P d t = some q → Laid w q cs
  | 0, _, _, _, _, _, _, h => by cases h
  | _ + 1, 0, _, _, _, _, h, _ => by cases h
  | d + 1, fuel + 1, t, cs, x, q, h, hq => by
    have ih := fun t cs x q h hq => trod_laid d fuel t cs x q h hq
    rw [DataW.trod_step] at h
    unfold DataW.trodStep at h
    unfold shapeOf at hq
    split at hq
    · rename_i hu
      cases hq
      simp only [hu] at h
      split at h <;> first | (cases h; done) | skip
      all_goals first | (simp_all; done) | skip
      exact Laid.one fun ρ h => ⟨.bool _, rfl, _, rfl⟩
    · rename_i k hu
      cases hq
      simp only [hu] at h
      split at h <;> first | (cases h; done) | (simp_all; done) | skip
      rename_i k1 k' n hk
      cases hk
      split at h
      · rename_i hc
        obtain ⟨rfl, hw⟩ := hc
        simp only [Lit.wf, Bool.and_eq_true, decide_eq_true_eq] at hw
        exact Laid.one fun ρ h => ⟨.int _ n, rfl, n, rfl, hw.1, hw.2⟩
      · cases h
    · rename_i hu
      cases hq
      simp only [hu] at h
      split at h <;> first | (cases h; done) | (simp_all; done) | skip
      split at h
      · rename_i s _ hc
        exact Laid.one fun ρ h => ⟨.str s.data.toList, by simp [VS], _, rfl, by have : s.size ≤ 9223372036854775807 := hc; exact this⟩
      · cases h
    · rename_i e hu
      split at hq
      · rename_i q0 hq0
        split at hq
        · rename_i s0 q1 hl
          cases hq
          have hl' := Nat.eq_of_beq_eq_true hl
          simp only [hu] at h
          split at h <;> first | (cases h; done) | (simp_all; done) | skip
          · exact Laid.one fun ρ h => ⟨.nils, rfl, .inl rfl⟩
          · rename_i e1 a len cap he
            cases he
            split at h
            · rename_i hc
              obtain ⟨hc1, hc2, hc3⟩ := hc
              simp only [Option.bind_eq_some_iff] at h
              obtain ⟨elems, hel, _⟩ := h
              have hall := mapM_all hel
              cases len with
              | zero => exact Laid.one fun ρ h => ⟨.top .emp, ⟨a, cap, rfl⟩, .inr (.inl rfl)⟩
              | succ m =>
                rw [hl'] at hall
                have hrow : ∀ i, i < m + 1 → ∃ cs, w.cells? 0 (a.add (i * (s0 :: q1).length)) (s0 :: q1).length = some cs ∧ Laid w (s0 :: q1) cs := fun i hi => by
                  obtain ⟨y, hy⟩ := hall i (by simpa using hi)
                  simp only [Option.bind_eq_some_iff] at hy
                  obtain ⟨cs, h1, h2⟩ := hy
                  exact ⟨cs, h1, ih _ _ _ _ h2 hq0⟩
                intro ρ h hr ho
                obtain ⟨ρ1, h1, rs, e1, r1, o1, x1, l1, c1, v1⟩ := rows_laid (m + 1) hrow ρ h hr ho
                obtain ⟨cs0, hcs0, _⟩ := hrow 0 (by omega)
                obtain ⟨_, hcl0, hce0⟩ := World.cells?_some hcs0
                have hc00 := hce0 0 (by simp)
                have ha0 : (a.add (0 * (s0 :: q1).length)).add 0 = a := by simp [Addr.add]
                rw [ha0] at hc00
                have hsome : (cs0[0]?).isSome := by cases cs0 with | nil => simp at hcl0 | cons _ _ => rfl
                have hcell : (w.cell? a).isSome := by rw [hc00]; exact hsome
                have hspot : a.spot = none ∧ a.block < w.heap.size := by
                  unfold World.cell? at hcell
                  split at hcell
                  · rename_i c t fr hb
                    split at hcell
                    · simp at hcell
                    · rename_i hs
                      refine ⟨by simpa using hs, ?_⟩
                      exact (Array.getElem?_eq_some_iff.1 hb).1
                  · simp at hcell
                let l : Loc := ⟨a.block, a.off, m + 1, (s0 :: q1).length⟩
                have hrows : RowsOk ρ1 w l (s0 :: q1).length rs := by
                  refine ⟨fun i r hi => ?_, fun i j r v hi hj => ?_⟩
                  · exact ShL.length (c1 r (List.mem_of_getElem? hi))
                  · obtain ⟨cs, k1, k2⟩ := v1 i r hi
                    obtain ⟨u, k3, k4⟩ := k2.get hj
                    obtain ⟨_, k5, k6⟩ := World.cells?_some k1
                    have hjl : j < (s0 :: q1).length := by
                      have := (List.getElem?_eq_some_iff.1 k3).1
                      omega
                    have k7 := k6 j hjl
                    refine ⟨u, k4, ?_⟩
                    rw [k3] at k7
                    rw [← k7]
                    congr 1
                    have hs := hspot.1
                    cases a with
                    | mk blk off spot =>
                      simp only at hs
                      subst hs
                      simp only [l, Addr.add]
                      split <;> split <;> simp_all <;> omega
                obtain ⟨r2, o2, x2⟩ := R.birth_ro r1 o1 (l := l) hspot.2 hrows
                refine ⟨_, _, [.sl h1.n 0 rs.length cap], e1.trans (Pl.ext_add (r1.fresh _ (Nat.le_refl _)).2), r2, o2, x1.trans x2, ⟨_, [], ⟨l, by simp [Pl.add], ?_⟩, rfl, rfl⟩, ⟨_, [], rfl, .inr (.inr ⟨h1.n, rs, cap, rfl, ?_, by omega, by omega, by simpa [maxLen] using hc3, fun r hr => ShL.mono o1 x2 _ _ (c1 r hr)⟩), rfl⟩⟩
                · have hs := hspot.1
                  cases a with
                  | mk blk off spot =>
                    simp only at hs
                    subst hs
                    simp [l, l1]
                · show (h1.t.put h1.n _).get h1.n = _
                  rw [T.get_put, if_pos rfl]
            · cases h
        · cases hq
      · cases hq
    · rename_i fs hu
      split at hq
      · rename_i p hp
        split at hq
        · rename_i hl
          cases hq
          have hl' := Nat.eq_of_beq_eq_true hl
          simp only [hu] at h
          split at h
          · rename_i hc
            simp only [Option.map_eq_some_iff] at h
            obtain ⟨xs, hxs, _⟩ := h
            have := flds_laid (cs := cs) ih fs.toList 0 _ hp (mapM_all hxs) (by omega)
            simpa using this
          · cases h
        · cases hq
      · cases hq
    · rename_i n e hu
      split at hq
      · rename_i p hp
        split at hq
        · rename_i hl1 hl2
          cases hq
          have hl1' := Nat.eq_of_beq_eq_true hl1
          have hl2' := Nat.eq_of_beq_eq_true hl2
          simp only [hu] at h
          split at h
          · rename_i hc
            simp only [Option.map_eq_some_iff] at h
            obtain ⟨xs, hxs, _⟩ := h
            have hall := mapM_all hxs
            have := elems_laid (w := w) (cs := cs) (q := p) n 0 (fun i hi => by
              obtain ⟨y, hy⟩ := hall i (by simpa using hi)
              rw [hl1'] at hy
              have := ih _ _ _ _ hy hp
              simpa using this) (by omega)
            simpa using this
          · cases h
        · cases hq
      · cases hq
    · cases hq
end

/-- the arguments, by the shapes of their types: one cell, or an aggregate -/
def Arg (h : Go.Abs.H) (P : Program) (t : TypeId) (v : AV) : Prop :=
  ∃ q, shapeOf P 9 t = some q ∧ match P.underlying t with
    | some (.struct _) | some (.array _ _) => ∃ l, v = .agg l ∧ ShL h q l
    | _ => ∃ s, q = [s] ∧ Sh1 h s v
def Args (h : Go.Abs.H) (P : Program) : List TypeId → List AV → Prop
  | [], l => l = []
  | t :: ts, l => ∃ v r, l = v :: r ∧ Arg h P t v ∧ Args h P ts r

theorem Arg.mono {P : Program} {h h' : Go.Abs.H} (ho : HOk h) (he : HExt h h') {t : TypeId} {v : AV} (k : Arg h P t v) : Arg h' P t v := by
  obtain ⟨q, k1, k2⟩ := k
  refine ⟨q, k1, ?_⟩
  split at k2
  · obtain ⟨l, k3, k4⟩ := k2; exact ⟨l, k3, ShL.mono ho he _ _ k4⟩
  · obtain ⟨l, k3, k4⟩ := k2; exact ⟨l, k3, ShL.mono ho he _ _ k4⟩
  · obtain ⟨l, k3, k4⟩ := k2; exact ⟨l, k3, Sh1.mono ho he _ _ k4⟩
theorem Args.mono {P : Program} {h h' : Go.Abs.H} (ho : HOk h) (he : HExt h h') : ∀ {ts : List TypeId} {l : List AV}, Args h P ts l → Args h' P ts l
  | [], _, k => k
  | _ :: _, _, ⟨v, r, k1, k2, k3⟩ => ⟨v, r, k1, Arg.mono ho he k2, Args.mono ho he k3⟩

theorem args_laid {H : Type} {enc : TypeId × Value → H} {P : Program} {w W : World} {base : Nat} : ∀ {ts : List TypeId} {vs : List Value} {ds : List (DataW H)} {ps : List MemPlace},
    (∀ (j : Nat) t v, ts[j]? = some t → vs[j]? = some v → Value.okWide P W .any base t v) →
    DataW.TrodAll enc P w 0 (fun _ => true) true ts vs ds ps → (ts.all fun t => (shapeOf P 9 t).isSome) = true →
    ∀ (ρ : Pl) (h : Go.Abs.H), R ρ h w → HOk h → ∃ ρ' h' l, Ext ρ ρ' ∧ R ρ' h' w ∧ HOk h' ∧ HExt h h' ∧ VX ρ' l vs ∧ Args h' P ts l
  | [], [], _, _, _, _, _, ρ, h, hr, ho => ⟨ρ, h, [], Ext.refl _, hr, ho, HExt.refl _, rfl, rfl⟩
  | t :: ts, v :: vs, [], _, _, h, _, _, _, _, _ => h.elim
  | t :: ts, v :: vs, d :: ds, ps, hok, h, hsh, ρ, h0, hr, ho => by
    obtain ⟨p, q, ⟨fuel, h1⟩, h2, _⟩ := h
    simp only [List.all_cons, Bool.and_eq_true] at hsh
    obtain ⟨s1, s2⟩ := hsh
    obtain ⟨q, hq⟩ := Option.isSome_iff_exists.1 s1
    obtain ⟨ρ1, h1', l1, e1, r1, o1, x1, v1, c1⟩ := trod_laid _ _ _ _ _ _ h1 hq ρ h0 hr ho
    obtain ⟨ρ2, h2', l2, e2, r2, o2, x2, v2, c2⟩ := args_laid (fun j t v ht hv => hok (j + 1) t v (by simpa using ht) (by simpa using hv)) h2 s2 ρ1 h1' r1 o1
    have hv := hok 0 t v rfl rfl
    have v1' := VL.mono e2 _ _ v1
    have c1' := ShL.mono o1 x2 _ _ c1
    unfold Value.okWide at hv
    have one : v.cells.toList = [v] → (∀ s, q = [s] → ∀ a, Sh1 h2' s a → Arg h2' P t a) → q.length = 1 → ∃ ρ' h' l, Ext ρ ρ' ∧ R ρ' h' w ∧ HOk h' ∧ HExt h0 h' ∧ VX ρ' l (v :: vs) ∧ Args h' P (t :: ts) l := fun hc ha hl => by
      rw [hc] at v1'
      match q, hl, c1', ha with
      | [s], _, c1', ha =>
        obtain ⟨a, r, rfl, k1, k2⟩ := c1'
        have k2' : r = [] := k2
        subst k2'
        obtain ⟨u, l', m1, m2, m3⟩ := v1'
        cases m3
        exact ⟨ρ2, h2', a :: l2, e1.trans e2, r2, o2, x1.trans x2, ⟨v, vs, VR.of_V1 (V1.of_VS m1), v2, rfl⟩, ⟨a, l2, rfl, ha s rfl a k1, c2⟩⟩
    split at hv
    · rename_i fs hu
      obtain ⟨ar, rfl, _, _⟩ := hv
      exact ⟨ρ2, h2', .agg l1 :: l2, e1.trans e2, r2, o2, x1.trans x2, ⟨_, _, ⟨ar.toList, v1', rfl⟩, v2, rfl⟩, ⟨_, _, rfl, ⟨q, hq, by simp only [hu]; exact ⟨l1, rfl, c1'⟩⟩, c2⟩⟩
    · rename_i n e hu
      obtain ⟨ar, rfl, _, _⟩ := hv
      exact ⟨ρ2, h2', .agg l1 :: l2, e1.trans e2, r2, o2, x1.trans x2, ⟨_, _, ⟨ar.toList, v1', rfl⟩, v2, rfl⟩, ⟨_, _, rfl, ⟨q, hq, by simp only [hu]; exact ⟨l1, rfl, c1'⟩⟩, c2⟩⟩
    · rename_i n1 n2
      have hArg : ∀ s, q = [s] → ∀ a, Sh1 h2' s a → Arg h2' P t a := fun s hs a ha => ⟨q, hq, by
        split
        · rename_i fs hu; exact absurd hu (n1 fs)
        · rename_i n e hu; exact absurd hu (n2 n e)
        · exact ⟨s, hs, ha⟩⟩
      have hq' := hq
      unfold shapeOf at hq'
      unfold Cell.okWide at hv
      split at hq'
      · rename_i hu
        cases hq'
        simp only [hu, Cell.ok] at hv
        refine one ?_ hArg rfl
        split at hv <;> simp_all [Value.cells]
      · rename_i k hu
        cases hq'
        simp only [hu, Cell.ok] at hv
        refine one ?_ hArg rfl
        split at hv <;> simp_all [Value.cells]
      · rename_i hu
        cases hq'
        simp only [hu, Cell.ok] at hv
        refine one ?_ hArg rfl
        split at hv <;> simp_all [Value.cells]
      · rename_i e hu
        split at hq'
        · split at hq'
          · cases hq'
            simp only [hu, Cell.ok] at hv
            refine one ?_ hArg rfl
            split at hv <;> simp_all [Value.cells]
          · cases hq'
        · cases hq'
      · rename_i fs hu; exact absurd hu (n1 fs)
      · rename_i n e hu; exact absurd hu (n2 n e)
      · cases hq'
  | [], _ :: _, _, _, _, h, _, _, _, _, _ => by cases ‹List (DataW H)› <;> exact h.elim
  | _ :: _, [], _, _, _, h, _, _, _, _, _ => by cases ‹List (DataW H)› <;> exact h.elim

/-- a law that hands back true on whatever is laid -/
theorem law_laid {P : Program} {E : Env} (hE : EnvOk P E) {fn : Func} {f : FuncId} (hsh : (fn.params.toList.all fun t => (shapeOf P 9 t).isSome) = true)
    (hmain : ∀ (h : Go.Abs.H) (l : List AV), HOk h → Args h P fn.params.toList l → ∃ n h', callA E n f l h = some (.bool true, h'))
    {H : Type} {enc : TypeId × Value → H} (W : World) (base : Nat) (args : Array Value) (ds : List (DataW H)) (ps : List MemPlace)
    (hok : ∀ (j : Nat) t v, fn.params[j]? = some t → args[j]? = some v → Value.okWide P W .any base t v)
    (hA : DataW.TrodAll enc P W 0 (fun _ => true) true fn.params.toList args.toList ds ps) :
    Calls P f args W fun e W' => e = .returned (.bool true) ∧ Below W.heap.size W W' := by
  have hO0 : HOk H0 := fun b x hx => by cases hx
  obtain ⟨ρ1, h1, l1, _, r1, o1, _, v1, c1⟩ := args_laid (fun j t v ht hv => hok j t v (by simpa using ht) (by simpa using hv)) hA hsh Pl.none H0 (R.empty W) hO0
  obtain ⟨n, h', hrun⟩ := hmain h1 l1 o1 c1
  have h4 := ((calls_ok hE n f _ _ _ _ hrun).2 ρ1 W args.toList r1 v1)
  rw [Array.toArray_toList] at h4
  refine h4.mono fun e W' ⟨ρ', u, g1, g2, g3⟩ => ?_
  subst g1
  have : u = .bool true := g2
  subst this
  refine ⟨rfl, below_of_post g3 fun c ho => ?_⟩
  obtain ⟨b, l, x, q1, q2, q3, _⟩ := ho
  rw [(o1 b x q2).2.1] at q3
  cases q3

end Go.Abs
