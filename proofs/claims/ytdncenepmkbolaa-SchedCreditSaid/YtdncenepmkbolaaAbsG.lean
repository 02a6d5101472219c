/-
  GROWN LISTS: a slice that the code itself has appended to, from none on, and what append does to it.
-/
import Derived.Test.YtdncenepmkbolaaAbsA
namespace Go.Abs.W
open Go Go.Abs Go.Abs.S

/-- a list of one's own: its rows, and the blocks that it may have (its own one, and the elder one) -/
def Lst (h : H) (es : Nat) (v : AV) (rs : List (List AV)) (S : List Nat) : Prop :=
  (rs = [] ∧ (v = .nils ∨ ∃ b, v = .sl b 0 0 0 ∧ b < h.n) ∧ S = []) ∨
  ∃ b p pre, v = .so b pre.length rs.length es ∧ h.get b = some (.rows es (pre ++ rs) false p none) ∧ 0 < es ∧ b ∈ S ∧ (∀ x, p = some x → x ∈ S ∧ x ≠ b) ∧ ∀ x ∈ S, x < h.n

theorem Lst.nil (h : H) (es : Nat) : Lst h es .nils [] [] := .inl ⟨rfl, .inl rfl, rfl⟩
theorem Lst.emp (h : H) (es b : Nat) (hb : b < h.n) : Lst h es (.sl b 0 0 0) [] [] := .inl ⟨rfl, .inr ⟨b, rfl, hb⟩, rfl⟩
theorem Lst.sl {h : H} {es : Nat} {v : AV} {rs : List (List AV)} {S : List Nat} (k : Lst h es v rs S) : SlR h es v rs := by
  rcases k with ⟨rfl, rfl | ⟨b, rfl, hb⟩, rfl⟩ | ⟨b, p, pre, rfl, k1, k2, k3, k4, k5⟩
  · exact .inl ⟨rfl, .inl rfl⟩
  · exact .inl ⟨rfl, .inr (.inr ⟨b, 0, rfl⟩)⟩
  · refine .inr ⟨b, pre.length, pre ++ rs, false, p, none, k1, k2, .inr rfl, fun i hi => ?_⟩
    rw [List.getElem?_append_right (by omega)]; congr 1; omega
theorem Lst.len {h : H} {es : Nat} {v : AV} {rs : List (List AV)} {S : List Nat} (k : Lst h es v rs S) : lenS v = some rs.length := k.sl.len
theorem Lst.lt {h : H} {es : Nat} {v : AV} {rs : List (List AV)} {S : List Nat} (k : Lst h es v rs S) : ∀ x ∈ S, x < h.n := by
  rcases k with ⟨rfl, _, rfl⟩ | ⟨b, p, pre, rfl, k1, k2, k3, k4, k5⟩
  · simp
  · exact k5
theorem Lst.keep {h h' : H} {es : Nat} {v : AV} {rs : List (List AV)} {S T : List Nat} (k : Lst h es v rs S) (hk : Keep h h' T) (hd : ∀ x ∈ S, x ∉ T) : Lst h' es v rs S := by
  rcases k with ⟨k1, k2, k3⟩ | ⟨b, p, pre, k0, k1, k2, k3, k4, k5⟩
  · exact .inl ⟨k1, k2.imp id fun ⟨b, e, hb⟩ => ⟨b, e, Nat.lt_of_lt_of_le hb hk.1⟩, k3⟩
  · exact .inr ⟨b, p, pre, k0, by rw [hk.2 b (k5 b k3) (hd b k3)]; exact k1, k2, k3, k4, fun x hx => Nat.lt_of_lt_of_le (k5 x hx) hk.1⟩

theorem Lst.blt {h : H} {es : Nat} {v : AV} {rs : List (List AV)} {S : List Nat} (k : Lst h es v rs S) : ∀ x, blkOf v = some x → x < h.n := by
  rcases k with ⟨rfl, rfl | ⟨b, rfl, hb⟩, rfl⟩ | ⟨b, p, pre, rfl, k1, k2, k3, k4, k5⟩
  · intro x hx; cases hx
  · intro x hx; cases hx; exact hb
  · intro x hx; cases hx; exact k5 b k3

theorem get_kill (h : H) (p : Option Nat) (c : Nat) (hc : p ≠ some c) : (h.kill p).get c = h.get c := by rw [H.get_kill, if_neg hc]
theorem keep_kill {a b : H} {S : List Nat} (k : Keep a b S) {p : Option Nat} (hp : ∀ x, p = some x → a.n ≤ x ∨ x ∈ S) : Keep a (b.kill p) S := ⟨by rw [H.n_kill]; exact k.1, fun c hc hs => by
  rw [get_kill _ _ _ (fun e => by rcases hp c e with h | h; · omega
                                  · exact hs h)]
  exact k.2 c hc hs⟩

/-- append -/
theorem Lst.app {h : H} {es : Nat} {v : AV} {rs : List (List AV)} {S : List Nat} (k : Lst h es v rs S) (hes : 0 < es) {x : AV} {r0 : List AV} {new : List (List AV)} (bytes : Nat) (hx : rowsOf h es x = some (r0 :: new))
    (h1 : (rs.length + (new.length + 1)) * bytes ≤ 1099511627776) (h2 : rs.length + (new.length + 1) ≤ 1099511627776) :
    ∃ v' h' S', appendOp h es bytes v x = some (v', h') ∧ Lst h' es v' (rs ++ r0 :: new) S' ∧ Keep h h' S ∧ (∀ x ∈ S', x ∈ S ∨ h.n ≤ x) ∧ v'.one = true := by
  obtain ⟨e, rfl⟩ : ∃ e, es = e + 1 := ⟨es - 1, by omega⟩
  rcases k with ⟨rfl, rfl | ⟨b, rfl, hb⟩, rfl⟩ | ⟨b, p, pre, rfl, k1, k2, k3, k4, k5⟩
  · simp only [List.length_nil, Nat.zero_add] at h1 h2
    refine ⟨.so h.n 0 (new.length + 1) (e + 1), h.new (.rows (e + 1) (r0 :: new) false none none), [h.n], ?_, ?_, (Keep.refl h _).new _, by simp, rfl⟩
    · simp only [appendOp, hx, lenN_eq, List.length_cons, ble_t h1, ble_t h2]
    · exact .inr ⟨h.n, none, [], by simp, by simpa using get_new_same h _, by omega, by simp, by simp, by simp⟩
  · simp only [List.length_nil, Nat.zero_add] at h1 h2
    have hbl : Nat.ble (new.length + 1) 0 = false := rfl
    refine ⟨.so h.n 0 (new.length + 1) (e + 1), h.new (.rows (e + 1) (r0 :: new) false none none), [h.n], ?_, ?_, (Keep.refl h _).new _, by simp, rfl⟩
    · have ho : rowsOf h (e + 1) (.sl b 0 0 0) = some [] := by simp only [rowsOf, slRow, Nat.zero_mod, Nat.zero_div]
      simp only [appendOp, hx, lenN_eq, List.length_cons, Nat.zero_add, ble_t h1, ble_t h2, hbl, ho, List.nil_append]
    · exact .inr ⟨h.n, none, [], by simp, by simpa using get_new_same h _, by omega, by simp, by simp, by simp⟩
  · have hbn := k5 b k3
    by_cases hz : pre.length + rs.length + (new.length + 1) ≤ (pre ++ rs).length
    · simp at hz; omega
    have hbl : Nat.ble (pre.length + rs.length + (new.length + 1)) (pre ++ rs).length = false := by
      cases hh : Nat.ble (pre.length + rs.length + (new.length + 1)) (pre ++ rs).length with
      | false => rfl
      | true => exact absurd (Nat.le_of_ble_eq_true hh) hz
    have ht : takeN (pre.length + rs.length) (pre ++ rs) = some (pre ++ rs) := by
      rw [takeN_eq]; exact ⟨by simp, by rw [List.take_of_length_le (by simp)]⟩
    have hd : dropN pre.length (pre ++ rs) = rs := by rw [dropN_eq, List.drop_left]
    have hpb : p ≠ some b := fun e => (k4 b e).2 rfl
    refine ⟨.so h.n 0 (rs.length + (new.length + 1)) (e + 1), ((h.kill p).new (.rows (e + 1) (rs ++ r0 :: new) false (some b) none)).put b (.rows (e + 1) (pre ++ rs) false none (some h.n)), [h.n, b], ?_, ?_, ?_, ?_, rfl⟩
    · simp only [appendOp, hx, lenN_eq, List.length_cons, ble_t h1, ble_t h2, k1, Nat.beq_refl, hbl, ht, hd]
      rfl
    · refine .inr ⟨h.n, some b, [], by simp, ?_, by omega, by simp, ?_, ?_⟩
      · rw [get_put_ne _ _ _ _ (by omega)]
        have := get_new_same (h.kill p) (.rows (e + 1) (rs ++ r0 :: new) false (some b) none)
        rw [H.n_kill] at this
        simpa using this
      · intro x hx; cases hx; exact ⟨by simp, by omega⟩
      · intro x hx
        rw [hn_put, hn_new, H.n_kill]
        simp at hx; omega
    · exact ((keep_kill (Keep.refl h S) fun x hx => .inr (k4 x hx).1).new _).put (.inr k3) _
    · intro x hx
      simp at hx
      rcases hx with rfl | rfl
      · exact .inr (Nat.le_refl _)
      · exact .inl k3

/-- what is appended: one row -/
theorem rows_one {h : H} {es b : Nat} {r : List AV} {ro : Bool} {p q : Option Nat} (hb : h.get b = some (.rows es [r] ro p q)) (hes : 0 < es) (c : Nat) : rowsOf h es (.sl b 0 1 c) = some [r] := by
  obtain ⟨e, rfl⟩ : ∃ e, es = e + 1 := ⟨es - 1, by omega⟩
  simp only [rowsOf, slRow, Nat.zero_mod, Nat.zero_div, hb, Nat.beq_refl, dropN_zero]
  rfl

end Go.Abs.W
