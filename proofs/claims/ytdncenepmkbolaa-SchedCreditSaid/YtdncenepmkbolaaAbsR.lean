/-
  THE RELATION between the abstract heap and the model's world, and small laws.
-/
import Derived.Test.YtdncenepmkbolaaAbsC
import Derived.WalkKit
namespace Go.Abs
open Go

/-! tries -/
theorem T.get_nil {α : Type} (n : Nat) : (T.nil : T α).get n = none := rfl
theorem T.get_node_zero {α : Type} (l r : T α) (v : Option α) : (T.node l v r).get 0 = v := rfl
theorem T.get_node_succ {α : Type} (l r : T α) (v : Option α) (m : Nat) : (T.node l v r).get (m + 1) = if m % 2 = 0 then l.get (m / 2) else r.get (m / 2) := by
  show (Nat.rec (l.get (m / 2)) (fun _ _ => r.get (m / 2)) (m % 2) : Option α) = _
  rcases h : m % 2 with _ | k
  · exact (if_pos rfl).symm
  · exact (if_neg (by omega)).symm

theorem T.setN_zero {α : Type} (v : Option α) (f : Nat) : T.setN v (f + 1) 0 = T.node .nil v .nil := rfl
theorem T.setN_succ {α : Type} (v : Option α) (f m : Nat) : T.setN v (f + 1) (m + 1) = if m % 2 = 0 then T.node (T.setN v f (m / 2)) none .nil else T.node .nil none (T.setN v f (m / 2)) := by
  show (Nat.rec (T.node (T.setN v f (m / 2)) none .nil) (fun _ _ => T.node .nil none (T.setN v f (m / 2))) (m % 2) : T α) = _
  rcases h : m % 2 with _ | k
  · exact (if_pos rfl).symm
  · exact (if_neg (by omega)).symm
theorem T.set_nil {α : Type} (v : Option α) (n : Nat) : T.set v .nil n = T.setN v (n + 1) n := rfl
theorem T.set_node_zero {α : Type} (v x : Option α) (l r : T α) : T.set v (.node l x r) 0 = .node l v r := rfl
theorem T.set_node_succ {α : Type} (v x : Option α) (l r : T α) (m : Nat) : T.set v (.node l x r) (m + 1) = if m % 2 = 0 then .node (T.set v l (m / 2)) x r else .node l x (T.set v r (m / 2)) := by
  show (Nat.rec (T.node (T.set v l (m / 2)) x r) (fun _ _ => T.node l x (T.set v r (m / 2))) (m % 2) : T α) = _
  rcases h : m % 2 with _ | k
  · exact (if_pos rfl).symm
  · exact (if_neg (by omega)).symm

theorem T.get_setN {α : Type} (v : Option α) : ∀ (f n m : Nat), n < f → (T.setN v f n).get m = if m = n then v else none := by
  intro f
  induction f with
  | zero => intro n m h; omega
  | succ f ih =>
    intro n m h
    cases n with
    | zero =>
      rw [T.setN_zero]
      cases m with
      | zero => simp [T.get_node_zero]
      | succ m => rw [T.get_node_succ]; simp [T.get_nil]
    | succ n =>
      rw [T.setN_succ]
      cases m with
      | zero => split <;> simp [T.get_node_zero]
      | succ m =>
        split
        · rw [T.get_node_succ, ih _ _ (by omega)]
          simp only [T.get_nil]
          split
          · by_cases e : m = n
            · subst e; simp
            · rw [if_neg (by omega), if_neg (by omega)]
          · rw [if_neg (by omega)]
        · rw [T.get_node_succ, ih _ _ (by omega)]
          simp only [T.get_nil]
          split
          · rw [if_neg (by omega)]
          · by_cases e : m = n
            · subst e; simp
            · rw [if_neg (by omega), if_neg (by omega)]

theorem T.get_set {α : Type} (v : Option α) (t : T α) : ∀ (n m : Nat), (T.set v t n).get m = if m = n then v else t.get m := by
  induction t with
  | nil => intro n m; rw [T.set_nil, T.get_setN _ _ _ _ (by omega)]; rfl
  | node l x r ihl ihr =>
    intro n m
    cases n with
    | zero =>
      rw [T.set_node_zero]
      cases m with
      | zero => simp [T.get_node_zero]
      | succ m => simp [T.get_node_succ]
    | succ n =>
      rw [T.set_node_succ]
      cases m with
      | zero => split <;> simp [T.get_node_zero]
      | succ m =>
        split
        · rw [T.get_node_succ, T.get_node_succ, ihl]
          split
          · by_cases e : m = n
            · subst e; simp
            · rw [if_neg (by omega), if_neg (by omega)]
          · rw [if_neg (by omega)]
        · rw [T.get_node_succ, T.get_node_succ, ihr]
          split
          · rw [if_neg (by omega)]
          · by_cases e : m = n
            · subst e; simp
            · rw [if_neg (by omega), if_neg (by omega)]

theorem T.get_put {α : Type} (t : T α) (n m : Nat) (v : α) : (t.put n v).get m = if m = n then some v else t.get m := T.get_set _ _ _ _

/-! lists -/
section lists
variable {α : Type}
theorem nth_eq (l : List α) : ∀ n, nth l n = l[n]? := by
  induction l with
  | nil => intro n; rfl
  | cons x r ih =>
    intro n
    cases n with
    | zero => rfl
    | succ n => exact (ih n).trans (by simp)
theorem dropN_eq (n : Nat) : ∀ l : List α, dropN n l = l.drop n := by
  induction n with
  | zero => intro l; rfl
  | succ n ih =>
    intro l
    cases l with
    | nil => rfl
    | cons x r => exact (ih r).trans (by simp)
theorem takeN_succ (n : Nat) (x : α) (r : List α) : takeN (n + 1) (x :: r) = match takeN n r with | some z => some (x :: z) | none => none := by
  show (Option.rec none (fun z => some (x :: z)) (takeN n r) : Option (List α)) = _
  cases takeN n r <;> rfl
theorem takeN_eq (n : Nat) : ∀ l z : List α, takeN n l = some z ↔ (n ≤ l.length ∧ z = l.take n) := by
  induction n with
  | zero => intro l z; show some [] = some z ↔ _; simp [eq_comm]
  | succ n ih =>
    intro l z
    cases l with
    | nil => show none = some z ↔ _; simp
    | cons x r =>
      rw [takeN_succ]
      cases h : takeN n r with
      | none =>
        have : ¬ n ≤ r.length := fun hh => by have := (ih r (r.take n)).2 ⟨hh, rfl⟩; rw [h] at this; cases this
        simp; omega
      | some y =>
        obtain ⟨h1, h2⟩ := (ih r y).1 h
        subst h2
        simp only [Option.some.injEq, List.length_cons, List.take_succ_cons]
        constructor
        · intro e; exact ⟨by omega, e.symm⟩
        · intro e; exact e.2.symm
theorem lenN_eq (l : List α) : lenN l = l.length := by
  induction l with
  | nil => rfl
  | cons x r ih => show Nat.succ (lenN r) = _; rw [ih]; rfl
theorem over_nil (l : List α) : over ([] : List α) l = some l := rfl
theorem over_cons (v : α) (vs : List α) (x : α) (r : List α) : over (v :: vs) (x :: r) = match over vs r with | some z => some (v :: z) | none => none := by
  show (Option.rec none (fun z => some (v :: z)) (over vs r) : Option (List α)) = _
  cases over vs r <;> rfl
theorem over_eq (vs : List α) : ∀ l z : List α, over vs l = some z ↔ (vs.length ≤ l.length ∧ z = vs ++ l.drop vs.length) := by
  induction vs with
  | nil => intro l z; rw [over_nil]; simp [eq_comm]
  | cons v vs ih =>
    intro l z
    cases l with
    | nil => show none = some z ↔ _; simp
    | cons x r =>
      rw [over_cons]
      cases h : over vs r with
      | none =>
        have : ¬ vs.length ≤ r.length := fun hh => by have := (ih r _).2 ⟨hh, rfl⟩; rw [h] at this; cases this
        simp; omega
      | some y =>
        obtain ⟨h1, h2⟩ := (ih r y).1 h
        subst h2
        simp only [Option.some.injEq, List.length_cons, List.drop_succ_cons, List.cons_append]
        constructor
        · intro e; exact ⟨by omega, e.symm⟩
        · intro e; exact e.2.symm
theorem atN_zero (f : List α → Option (List α)) (l : List α) : atN f 0 l = f l := rfl
theorem atN_succ (f : List α → Option (List α)) (n : Nat) (x : α) (r : List α) : atN f (n + 1) (x :: r) = match atN f n r with | some z => some (x :: z) | none => none := by
  show (Option.rec none (fun z => some (x :: z)) (atN f n r) : Option (List α)) = _
  cases atN f n r <;> rfl
theorem atN_eq (f : List α → Option (List α)) (n : Nat) : ∀ l z : List α, atN f n l = some z ↔ (n ≤ l.length ∧ ∃ y, f (l.drop n) = some y ∧ z = l.take n ++ y) := by
  induction n with
  | zero => intro l z; rw [atN_zero]; simp
  | succ n ih =>
    intro l z
    cases l with
    | nil => show none = some z ↔ _; simp
    | cons x r =>
      rw [atN_succ]
      cases h : atN f n r with
      | none =>
        simp only [List.length_cons, List.drop_succ_cons, List.take_succ_cons, reduceCtorEq, false_iff, not_and, not_exists]
        intro hl y hy
        have := (ih r (r.take n ++ y)).2 ⟨by omega, y, hy, rfl⟩
        rw [h] at this; cases this
      | some y =>
        obtain ⟨h1, w, h2, h3⟩ := (ih r y).1 h
        subst h3
        simp only [Option.some.injEq, List.length_cons, List.drop_succ_cons, List.take_succ_cons, List.cons_append]
        constructor
        · intro e; exact ⟨by omega, w, h2, e.symm⟩
        · rintro ⟨_, w', h2', rfl⟩
          rw [h2] at h2'; cases h2'; rfl
/-- a place of a list written over from n on -/
theorem atN_over {vs l z : List α} {n : Nat} (h : atN (over vs) n l = some z) :
    n + vs.length ≤ l.length ∧ z = l.take n ++ vs ++ l.drop (n + vs.length) := by
  obtain ⟨h1, y, h2, h3⟩ := (atN_eq _ _ _ _).1 h
  obtain ⟨h4, h5⟩ := (over_eq _ _ _).1 h2
  subst h3 h5
  simp only [List.length_drop] at h4
  refine ⟨by omega, ?_⟩
  rw [List.drop_drop, List.append_assoc]
theorem atN_over_get {vs l z : List α} {n : Nat} (h : atN (over vs) n l = some z) (i : Nat) :
    z[i]? = if i < n then l[i]? else if i < n + vs.length then vs[i - n]? else l[i]? := by
  obtain ⟨h1, h2⟩ := atN_over h
  subst h2
  have hl : (l.take n).length = n := by simp; omega
  rw [List.append_assoc]
  split
  · rw [List.getElem?_append_left (by omega)]; rw [List.getElem?_take]; simp [*]
  · rw [List.getElem?_append_right (by omega), hl]
    split
    · rw [List.getElem?_append_left (by omega)]
    · rw [List.getElem?_append_right (by omega), List.getElem?_drop]
      congr 1; omega
theorem atN_over_len {vs l z : List α} {n : Nat} (h : atN (over vs) n l = some z) : z.length = l.length := by
  obtain ⟨h1, h2⟩ := atN_over h
  subst h2
  simp; omega
end lists

/-! where an abstract block lies: a block of the world's, the cell at which it begins, how many rows there are from there on, how wide they are -/
structure Loc where
  blk : Nat
  off : Nat
  room : Nat
  es : Nat

abbrev Pl := Nat → Option Loc

def Top.has : Top → Value → Prop
  | .int k a b, v => ∃ n, v = .int k n ∧ a ≤ n ∧ n ≤ b
  | .str a b, v => ∃ s, v = .string s ∧ a ≤ s.size ∧ s.size ≤ b
  | .sl a b, v => (a = 0 ∧ v = .slice none 0 0) ∨ ∃ x n c, v = .slice (some x) n c ∧ a ≤ n ∧ n ≤ b
  | .bool, v => ∃ b, v = .bool b
  | .emp, v => ∃ x c, v = .slice (some x) 0 c

theorem Top.oneCell {q : Top} {v : Value} (h : q.has v) : v.oneCell' = true := by
  cases q <;> simp only [Top.has] at h
  · obtain ⟨_, rfl, _⟩ := h; rfl
  · obtain ⟨_, rfl, _⟩ := h; rfl
  · obtain ⟨_, rfl⟩ | ⟨_, _, _, rfl, _⟩ := h <;> rfl
  · obtain ⟨_, rfl⟩ := h; rfl
  · obtain ⟨_, _, rfl⟩ := h; rfl

mutual
/-- a value of one cell -/
def VS (ρ : Pl) : AV → Value → Prop
  | .bool b, v => v = .bool b
  | .int k n, v => v = .int k n
  | .str s, v => v = .string ⟨s.toArray⟩
  | .ptr b o, v => ∃ l, ρ b = some l ∧ v = .pointer (some ⟨l.blk, l.off + o, none⟩)
  | .nilp, v => v = .pointer none
  | .sl b o len cap, v => ∃ l, ρ b = some l ∧ v = .slice (some ⟨l.blk, l.off + o, none⟩) len cap
  | .so b i len es, v => ∃ l, ρ b = some l ∧ (l.es = es ∧ 0 < es ∧ i + len ≤ l.room ∧
      (v = .slice (some ⟨l.blk, l.off + i * es, none⟩) len (l.room - i) ∨ (len = 0 ∧ l.room = i ∧ ∃ x, v = .slice (some ⟨l.blk, x, none⟩) 0 0)))
  | .nils, v => v = .slice none 0 0
  | .mp b, v => ∃ l, ρ b = some l ∧ v = .map (some l.blk)
  | .nilm, v => v = .map none
  | .fn f cap, v => ∃ l, VL ρ cap l ∧ v = .func (.func f) #[] l.toArray
  | .nilf, v => v = .nilFunc
  | .nili, v => v = .nilIface
  | .agg _, _ => False
  | .tup _, _ => False
  | .top q, v => q.has v
def VL (ρ : Pl) : List AV → List Value → Prop
  | [], l => l = []
  | a :: r, l => ∃ v l', VS ρ a v ∧ VL ρ r l' ∧ l = v :: l'
end

/-- a value that is no tuple -/
def V1 (ρ : Pl) : AV → Value → Prop
  | .agg cs, v => ∃ l, VL ρ cs l ∧ v = .agg l.toArray
  | a, v => VS ρ a v
def VM (ρ : Pl) : List AV → List Value → Prop
  | [], l => l = []
  | a :: r, l => ∃ v l', V1 ρ a v ∧ VM ρ r l' ∧ l = v :: l'
def VR (ρ : Pl) : AV → Value → Prop
  | .tup vs, v => ∃ l, VM ρ vs l ∧ v = .tuple l.toArray
  | a, v => V1 ρ a v

def Ext (ρ ρ' : Pl) : Prop := ∀ b l, ρ b = some l → ρ' b = some l
theorem Ext.refl (ρ : Pl) : Ext ρ ρ := fun _ _ h => h
theorem Ext.trans {a b c : Pl} (h : Ext a b) (k : Ext b c) : Ext a c := fun _ _ e => k _ _ (h _ _ e)

mutual
theorem VS.mono {ρ ρ' : Pl} (he : Ext ρ ρ') : ∀ (a : AV) (v : Value), VS ρ a v → VS ρ' a v
  | .bool b, v, h => h
  | .int k n, v, h => h
  | .str s, v, h => h
  | .ptr b o, v, h => by obtain ⟨l, h1, h2⟩ := h; exact ⟨l, he _ _ h1, h2⟩
  | .nilp, v, h => h
  | .sl b o len cap, v, h => by obtain ⟨l, h1, h2⟩ := h; exact ⟨l, he _ _ h1, h2⟩
  | .so b i len es, v, h => by obtain ⟨l, h1, h2⟩ := h; exact ⟨l, he _ _ h1, h2⟩
  | .nils, v, h => h
  | .mp b, v, h => by obtain ⟨l, h1, h2⟩ := h; exact ⟨l, he _ _ h1, h2⟩
  | .nilm, v, h => h
  | .fn f cap, v, h => by obtain ⟨l, h1, h2⟩ := h; exact ⟨l, VL.mono he _ _ h1, h2⟩
  | .nilf, v, h => h
  | .nili, v, h => h
  | .agg _, _, h => h
  | .tup _, _, h => h
  | .top _, _, h => h
theorem VL.mono {ρ ρ' : Pl} (he : Ext ρ ρ') : ∀ (a : List AV) (v : List Value), VL ρ a v → VL ρ' a v
  | [], _, h => h
  | a :: r, l, h => by
    obtain ⟨v, l', h1, h2, h3⟩ := h
    exact ⟨v, l', VS.mono he _ _ h1, VL.mono he _ _ h2, h3⟩
end
theorem V1.mono {ρ ρ' : Pl} (he : Ext ρ ρ') (a : AV) (v : Value) (h : V1 ρ a v) : V1 ρ' a v := by
  cases a <;> simp only [V1] at h ⊢ <;> first | exact VS.mono he _ _ h | (obtain ⟨l, h1, h2⟩ := h; exact ⟨l, VL.mono he _ _ h1, h2⟩)
theorem VM.mono {ρ ρ' : Pl} (he : Ext ρ ρ') : ∀ (a : List AV) (v : List Value), VM ρ a v → VM ρ' a v
  | [], _, h => h
  | a :: r, l, h => by
    obtain ⟨v, l', h1, h2, h3⟩ := h
    exact ⟨v, l', V1.mono he _ _ h1, VM.mono he _ _ h2, h3⟩
theorem VR.mono {ρ ρ' : Pl} (he : Ext ρ ρ') (a : AV) (v : Value) (h : VR ρ a v) : VR ρ' a v := by
  cases a <;> simp only [VR] at h ⊢ <;> first | exact V1.mono he _ _ h | (obtain ⟨l, h1, h2⟩ := h; exact ⟨l, VM.mono he _ _ h1, h2⟩)

theorem VL.length {ρ : Pl} : ∀ {a : List AV} {l : List Value}, VL ρ a l → l.length = a.length
  | [], _, h => by subst h; rfl
  | a :: r, l, h => by obtain ⟨v, l', _, h2, rfl⟩ := h; simp [VL.length h2]
theorem VL.get {ρ : Pl} : ∀ {a : List AV} {l : List Value}, VL ρ a l → ∀ {i : Nat} {x : AV}, a[i]? = some x → ∃ v, l[i]? = some v ∧ VS ρ x v
  | [], _, _, i, x, hx => by simp at hx
  | a :: r, l, h, i, x, hx => by
    obtain ⟨v, l', h1, h2, rfl⟩ := h
    cases i with
    | zero => simp at hx; subst hx; exact ⟨v, rfl, h1⟩
    | succ i => simp at hx ⊢; exact VL.get h2 hx
theorem VL.get' {ρ : Pl} : ∀ {a : List AV} {l : List Value}, VL ρ a l → ∀ {i : Nat} {v : Value}, l[i]? = some v → ∃ x, a[i]? = some x ∧ VS ρ x v
  | [], _, h, i, v, hv => by subst h; simp at hv
  | a :: r, l, h, i, v, hv => by
    obtain ⟨u, l', h1, h2, rfl⟩ := h
    cases i with
    | zero => simp at hv; subst hv; exact ⟨a, rfl, h1⟩
    | succ i => simp at hv ⊢; exact VL.get' h2 hv
theorem VL.mk {ρ : Pl} : ∀ {a : List AV} {l : List Value}, a.length = l.length → (∀ (i : Nat) (x : AV) (v : Value), a[i]? = some x → l[i]? = some v → VS ρ x v) → VL ρ a l
  | [], [], _, _ => rfl
  | [], _ :: _, h, _ => by simp at h
  | _ :: _, [], h, _ => by simp at h
  | a :: r, v :: l, h, k => ⟨v, l, k 0 a v rfl rfl, VL.mk (by simpa using h) (fun i x u hx hu => k (i + 1) x u (by simpa using hx) (by simpa using hu)), rfl⟩
theorem VL.append {ρ : Pl} : ∀ {a b : List AV} {l m : List Value}, VL ρ a l → VL ρ b m → VL ρ (a ++ b) (l ++ m)
  | [], b, l, m, h, k => by subst h; exact k
  | a :: r, b, l, m, h, k => by
    obtain ⟨v, l', h1, h2, rfl⟩ := h
    exact ⟨v, l' ++ m, h1, VL.append h2 k, rfl⟩
theorem VL.take {ρ : Pl} {a : List AV} {l : List Value} (h : VL ρ a l) (n : Nat) : VL ρ (a.take n) (l.take n) := by
  refine VL.mk (by have := h.length; simp; omega) fun i x v hx hv => ?_
  rw [List.getElem?_take] at hx hv
  split at hx
  · rename_i hi
    rw [if_pos hi] at hv
    obtain ⟨u, hu, hs⟩ := h.get hx
    rw [hv] at hu; cases hu; exact hs
  · cases hx
theorem VL.drop {ρ : Pl} {a : List AV} {l : List Value} (h : VL ρ a l) (n : Nat) : VL ρ (a.drop n) (l.drop n) := by
  refine VL.mk (by have := h.length; simp; omega) fun i x v hx hv => ?_
  rw [List.getElem?_drop] at hx hv
  obtain ⟨u, hu, hs⟩ := h.get hx
  rw [hv] at hu; cases hu; exact hs
theorem VS.oneCell {ρ : Pl} {a : AV} {v : Value} (h : VS ρ a v) : v.oneCell' = true := by
  cases a <;> simp only [VS] at h <;> first
    | exact Top.oneCell h
    | (subst h; rfl)
    | (obtain ⟨l, h1, h2⟩ := h; subst h2; rfl)
    | exact h.elim
    | skip
  obtain ⟨l, h1, _, _, _, h | ⟨_, _, x, h⟩⟩ := h <;> subst h <;> rfl
theorem V1.of_VS {ρ : Pl} {a : AV} {v : Value} (h : VS ρ a v) : V1 ρ a v := by
  cases a <;> first | exact h | exact h.elim
theorem VR.of_V1 {ρ : Pl} {a : AV} {v : Value} (h : V1 ρ a v) : VR ρ a v := by
  cases a <;> first | exact h | exact (h : False).elim
/-- the cells of a value -/
theorem cellsN_sound {ρ : Pl} {a : AV} {v : Value} {n : Nat} {cs : List AV} (h : VR ρ a v) (hc : a.cellsN n = some cs) : VL ρ cs v.cells.toList ∧ cs.length = n ∧ v.cells.size = n := by
  have one : ∀ (a : AV) (v : Value), VS ρ a v → VL ρ [a] v.cells.toList ∧ [a].length = 1 ∧ v.cells.size = 1 := by
    intro a v h
    have hs := VS.oneCell h
    have e : v.cells = #[v] := by cases v <;> first | rfl | (simp [Value.oneCell'] at hs)
    rw [e]
    exact ⟨⟨v, [], h, rfl, rfl⟩, rfl, rfl⟩
  unfold AV.cellsN at hc
  split at hc
  · cases hc
  · split at hc
    · rename_i hl
      cases hc
      obtain ⟨l, h1, rfl⟩ := h
      have : cs.length = n := by rw [lenN_eq] at hl; simpa using hl
      refine ⟨by simpa [Value.cells] using h1, this, ?_⟩
      simp [Value.cells, h1.length, this]
    · cases hc
  · split at hc
    · cases hc
      refine one _ _ ?_
      cases a <;> first | exact h | (exfalso; simp_all; done)
    · cases hc
theorem VM.length {ρ : Pl} : ∀ {a : List AV} {l : List Value}, VM ρ a l → l.length = a.length
  | [], _, h => by subst h; rfl
  | a :: r, l, h => by obtain ⟨v, l', _, h2, rfl⟩ := h; simp [VM.length h2]
theorem VM.get {ρ : Pl} : ∀ {a : List AV} {l : List Value}, VM ρ a l → ∀ {i : Nat} {x : AV}, a[i]? = some x → ∃ v, l[i]? = some v ∧ V1 ρ x v
  | [], _, _, i, x, hx => by simp at hx
  | a :: r, l, h, i, x, hx => by
    obtain ⟨v, l', h1, h2, rfl⟩ := h
    cases i with
    | zero => simp at hx; subst hx; exact ⟨v, rfl, h1⟩
    | succ i => simp at hx ⊢; exact VM.get h2 hx

/-! the program's own values -/
theorem absS_VS {v : Value} {a : AV} (ρ : Pl) (h : absS v = some a) : VS ρ a v := by
  unfold absS at h
  split at h <;> first | (simp only [Option.some.injEq] at h; subst h; simp [VS]) | cases h
theorem absL_VL {ρ : Pl} : ∀ {vs : List Value} {l : List AV}, absL vs = some l → VL ρ l vs
  | [], l, h => by simp [absL] at h; subst h; rfl
  | v :: r, l, h => by
    simp only [absL] at h
    split at h <;> try cases h
    rename_i a ha
    split at h <;> try cases h
    rename_i m hm
    exact ⟨v, r, absS_VS ρ ha, absL_VL hm, rfl⟩
theorem absV_VR {v : Value} {a : AV} (ρ : Pl) (h : absV v = some a) : VR ρ a v := by
  unfold absV at h
  split at h
  · split at h <;> try cases h
    rename_i l hl
    exact ⟨_, absL_VL hl, by simp⟩
  · split at h
    · rename_i hl
      simp only [Option.some.injEq] at h; subst h
      rename_i vs
      exact ⟨[], rfl, by rw [← hl]⟩
    · cases h
  · exact VR.of_V1 (V1.of_VS (absS_VS ρ h))

end Go.Abs
