/-
  Reads: what is known of those that wait, without a program in sight.
-/
import Derived.Test.YtpfgbnmeaalpdaaReadC
namespace Go.Proofs.Ytpfgbnmeaalpdaa
open Go Go.Abs Go.Abs.S Go.Abs.W
set_option maxRecDepth 10000
set_option maxHeartbeats 1000000

/-- a row's number -/
noncomputable def idOf (row : List AV) : Int := match nth row 0 with
  | some (.int .i64 x) => x
  | _ => 0
structure Good (puts : Int) (row : List AV) : Prop where
  len : row.length = 34
  a0 : nth row 0 = some (.int .i64 (idOf row))
  a4 : nth row 4 = some (.int .i64 (idOf row))
  a33 : nth row 33 = some (.int .i64 (idOf row))
  a7 : ∃ d, nth row 7 = some (.int .i64 d)
  lo : 1 ≤ idOf row
  hi : idOf row ≤ puts
abbrev Rise (l : List (List AV)) : Prop := l.Pairwise fun a b => idOf a < idOf b
abbrev AllGood (puts : Int) (l : List (List AV)) : Prop := ∀ x ∈ l, Good puts x
/-- which are not told yet -/
abbrev Untold (told : List (List AV)) (l : List (List AV)) : Prop := ∀ x ∈ l, told[(idOf x).toNat]? = some [.bool false]

theorem Rise.inj {l : List (List AV)} (h : Rise l) {a b : List AV} (ha : a ∈ l) (hb : b ∈ l) (e : idOf a = idOf b) : a = b := by
  induction l with
  | nil => cases ha
  | cons x r ih =>
    have h : _ := List.pairwise_cons.1 h
    rcases List.mem_cons.1 ha with rfl | ha' <;> rcases List.mem_cons.1 hb with rfl | hb'
    · rfl
    · have := h.1 b hb'; omega
    · have := h.1 a ha'; omega
    · exact ih h.2 ha' hb'
theorem filter_len (p : List AV → Bool) (l : List (List AV)) : (l.filter p).length + (l.filter fun x => !p x).length = l.length := by
  induction l with
  | nil => rfl
  | cons x r ih => cases hp : p x <;> simp [hp] <;> omega

/-- what is told together, and what stays -/
structure Part (puts : Int) (told : List (List AV)) (got stay : List (List AV)) : Prop where
  g1 : AllGood puts got
  g2 : AllGood puts stay
  r1 : Rise got
  r2 : Rise stay
  u1 : Untold told got
  u2 : Untold told stay
  ne : ∀ a ∈ got, ∀ b ∈ stay, idOf a ≠ idOf b
theorem part_of {puts : Int} {told rows : List (List AV)} (g : AllGood puts rows) (r : Rise rows) (u : Untold told rows) (p : List AV → Bool) : Part puts told (rows.filter p) (rows.filter fun x => !p x) :=
  ⟨fun x hx => g x (List.mem_filter.1 hx).1, fun x hx => g x (List.mem_filter.1 hx).1, r.filter _, r.filter _, fun x hx => u x (List.mem_filter.1 hx).1, fun x hx => u x (List.mem_filter.1 hx).1, fun a ha b hb e => by
    obtain ⟨a1, a2⟩ := List.mem_filter.1 ha
    obtain ⟨b1, b2⟩ := List.mem_filter.1 hb
    have := r.inj a1 b1 e
    subst this
    rw [a2] at b2; cases b2⟩
theorem part_nil {puts : Int} {told rows : List (List AV)} (g : AllGood puts rows) (r : Rise rows) (u : Untold told rows) : Part puts told [] rows :=
  ⟨fun _ h => (by cases h), g, .nil, r, fun _ h => (by cases h), u, fun _ h => (by cases h)⟩
theorem part_all {puts : Int} {told rows : List (List AV)} (g : AllGood puts rows) (r : Rise rows) (u : Untold told rows) : Part puts told rows [] :=
  ⟨g, fun _ h => (by cases h), r, .nil, u, fun _ h => (by cases h), fun _ _ _ h => (by cases h)⟩
/-- one is told -/
theorem Part.tell {puts : Int} {told got stay : List (List AV)} {x : List AV} (k : Part puts told (x :: got) stay) : Part puts (told.set (idOf x).toNat [.bool true]) got stay := by
  have hx := k.g1 x List.mem_cons_self
  have hlo := hx.lo
  have hr := List.pairwise_cons.1 k.r1
  refine ⟨fun y hy => k.g1 y (List.mem_cons_of_mem _ hy), k.g2, hr.2, k.r2, fun y hy => ?_, fun y hy => ?_, fun a ha => k.ne a (List.mem_cons_of_mem _ ha)⟩
  · have h1 := hr.1 y hy
    rw [List.getElem?_set_ne (by omega)]
    exact k.u1 y (List.mem_cons_of_mem _ hy)
  · have h1 := k.ne x List.mem_cons_self y hy
    have h2 := (k.g2 y hy).lo
    rw [List.getElem?_set_ne (by omega)]
    exact k.u2 y hy
/-- numbers that were not given yet -/
abbrev Fresh (puts : Int) (told : List (List AV)) : Prop := ∀ m : Nat, puts < m → m < told.length → told[m]? = some [.bool false]
theorem Fresh.set {puts : Int} {told : List (List AV)} (k : Fresh puts told) {m : Nat} (h : (m : Int) ≤ puts) (x : List AV) : Fresh puts (told.set m x) := fun q h1 h2 => by
  rw [List.getElem?_set_ne (by omega)]
  exact k q h1 (by simpa using h2)
/-- one more waits -/
theorem good_more {puts : Int} {row : List AV} (k : Good puts row) : Good (puts + 1) row := ⟨k.len, k.a0, k.a4, k.a33, k.a7, k.lo, by have := k.hi; omega⟩
theorem rise_more {puts : Int} {rows : List (List AV)} {row : List AV} (g : AllGood puts rows) (r : Rise rows) (h : idOf row = puts + 1) : Rise (rows ++ [row]) := by
  unfold Rise
  rw [List.pairwise_append]
  refine ⟨r, by simp, fun a ha b hb => ?_⟩
  simp at hb; subst hb
  have := (g a ha).hi; omega

/-- the row of a read that is put -/
abbrev putF (n d : Int) : List AV := [.int .i64 0, .int .i64 0, .int .i64 0, .int .i64 n, .int .i64 0, .int .i64 0, .int .i64 d, .int .i64 0, .str [], .str [], .int .i64 0, .int .i64 0, .str [], .int .i64 0, .int .i64 0, .int .i64 0, .int .i64 0, .int .i64 0, .int .i64 0, .int .i64 0, .str [], .str [], .int .i64 0, .int .i64 0, .nils, .int .i64 0, .int .i64 0, .int .i64 0, .int .i64 0]
abbrev putX (n : Int) : List AV := [.int .i64 0, .str [], .int .i64 0, .int .i64 n]
theorem id_put (n d : Int) : idOf (.int .i64 n :: (putF n d ++ putX n)) = n := rfl
theorem good_put {n d : Int} (h : 1 ≤ n) : Good n (.int .i64 n :: (putF n d ++ putX n)) := ⟨rfl, rfl, rfl, rfl, ⟨d, rfl⟩, h, Int.le_refl _⟩
theorem AllGood.rows {puts : Int} {l : List (List AV)} (k : AllGood puts l) : Rows l := fun x hx => ⟨(k x hx).len, ⟨_, (k x hx).a0⟩, (k x hx).a7⟩
end Go.Proofs.Ytpfgbnmeaalpdaa
