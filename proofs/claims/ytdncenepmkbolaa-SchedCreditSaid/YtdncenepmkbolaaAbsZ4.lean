/-
  Append (3).
-/
import Derived.Test.YtdncenepmkbolaaAbsZ3
namespace Go.Abs
open Go

section
variable {P : Program} {E : Env} {ρ : Pl} {fr : T AV} {ev : Operand → Value}

theorem rowsOk_of_flat {w : World} {l : Loc} {size : Nat} {rows : List (List AV)} (hw : ∀ (i : Nat) (r : List AV), rows[i]? = some r → r.length = size) {us : List Value} (hu : VL ρ rows.flatten us)
    (hc : Cells w l.blk l.off us) : RowsOk ρ w l size rows := by
  refine ⟨hw, fun i j r v hi hj => ?_⟩
  have := flatten_get' size rows hw i j r v hi hj
  obtain ⟨u, k1, k2⟩ := hu.get this
  exact ⟨u, k2, by rw [Nat.add_assoc]; exact hc _ _ k1⟩

theorem BlkOk.grown {w : World} {size c : Nat} {rows : List (List AV)} (hw : ∀ (i : Nat) (r : List AV), rows[i]? = some r → r.length = size) {us rest : List Value} (hu : VL ρ rows.flatten us)
    {C : Array Value} (hC : C.toList = us ++ rest) (hs : C.size = c * size) (hle : rows.length ≤ c) (e : TypeId) (p n : Option Nat) :
    BlkOk ρ (w.alloc (.cells C e)) ⟨w.heap.size, 0, c, size⟩ (.rows size rows false p n) := by
  refine ⟨rowsOk_of_flat hw hu fun j u hj => ?_, fun _ => ⟨rfl, fun o ho => by simp, fun o ho => ?_, hle⟩⟩
  · simp only [Nat.zero_add]
    rw [World.cell?_alloc_new, ← Array.getElem?_toList, hC]
    rw [List.getElem?_append_left (List.getElem?_eq_some_iff.1 hj).1]; exact hj
  · have : o < C.size := by rw [hs]; exact ho
    exact ⟨C[o], by simp only [Nat.zero_add]; rw [World.cell?_alloc_new]; simp [this]⟩

theorem Elems.take {w : World} {size : Nat} {rows : List (List AV)} {p : Value} (h : Elems P ρ w size rows p) : ∃ us, VL ρ rows.flatten us ∧ us.length = rows.length * size ∧ ∀ w', w'.heap = w.heap → (Builtin.firstCells size rows.length p).run P w' = .ok us.toArray w' := by
  obtain ⟨us, h1, h2, h3⟩ := h.cells
  refine ⟨us, h1, h2, fun w' hh => ?_⟩
  have := h3 w' rows.length hh (Nat.le_refl _)
  rwa [← h2, List.take_length] at this

theorem wide_append {size : Nat} {a b : List (List AV)} (ha : ∀ (i : Nat) (r : List AV), a[i]? = some r → r.length = size) (hb : ∀ (i : Nat) (r : List AV), b[i]? = some r → r.length = size) :
    ∀ (i : Nat) (r : List AV), (a ++ b)[i]? = some r → r.length = size := fun i r h => by
  rcases Nat.lt_or_ge i a.length with hl | hl
  · rw [List.getElem?_append_left hl] at h; exact ha i r h
  · rw [List.getElem?_append_right hl] at h; exact hb _ r h

/-- the new block of an append -/
theorem grow_new {h : H} {w : World} (hr : R ρ h w) {size : Nat} (hs : 0 < size) {rows : List (List AV)} (hw : ∀ (i : Nat) (r : List AV), rows[i]? = some r → r.length = size) {us : List Value} (hu : VL ρ rows.flatten us)
    {t : TypeId} {te : TI} {i : TypeInfo} {z : Value} {d : TypeDesc} (hT : TIok P t te i z d) (hsz : te.size = size) {c : Nat} (hc : rows.length ≤ c) :
    Post ρ h w (ρ.add h.n ⟨w.heap.size, 0, c, size⟩) (h.new (.rows size rows false none none)) (w.drew.alloc (.cells (us.toArray ++ Builtin.zeroCells z.cells (c - rows.length)) t)) ∧
      VR (ρ.add h.n ⟨w.heap.size, 0, c, size⟩) (.so h.n 0 rows.length size) (.slice (some ⟨w.heap.size, 0, none⟩) rows.length c) := by
  have hzs : z.cells.size = size := by have := (hT.zcells ρ).length; rw [hT.zlen, hsz] at this; simpa using this
  have hul := hu.length
  rw [(flatten_get size rows hw).1] at hul
  have he := Pl.ext_add (ρ := ρ) (l := ⟨w.heap.size, 0, c, size⟩) (hr.fresh h.n (Nat.le_refl _)).2
  refine ⟨Post.birth hr (fun k hk => ?_) (by simp) (Nat.le_refl _) (by simp) ?_ rfl rfl rfl rfl rfl, ⟨⟨w.heap.size, 0, c, size⟩, by simp [Pl.add], rfl, hs, by simpa using hc, .inl (by simp)⟩⟩
  · have := RowKit.Below.heap_alloc w.drew (.cells (us.toArray ++ Builtin.zeroCells z.cells (c - rows.length)) t) k hk
    exact this
  · refine BlkOk.grown (w := w.drew) hw (hu.mono he) (rest := (Builtin.zeroCells z.cells (c - rows.length)).toList) (by simp) ?_ hc t none none
    rw [Array.size_append, size_zeroCells, hzs]
    simp only [List.size_toArray, hul]
    rw [← Nat.add_mul]; congr 1; omega

theorem append_sound {h h' : H} {w : World} (hr : R ρ h w) {ts : Array TypeId} {t t2 ty e : TypeId} (h0 : ts[0]? = some t) (h1 : ts[1]? = some t2) (ht : P.underlying t = some (.slice e)) (ht2 : srcType P t2)
    {te : TI} {i : TypeInfo} {z : Value} {d : TypeDesc} (hT : TIok P e te i z d) {s x v : AV} (hop : appendOp h te.size te.bytes s x = some (v, h')) {p q : Value} (hp : VR ρ s p) (hq : VR ρ x q) :
    ∃ ρ' u w', VR ρ' v u ∧ Post ρ h w ρ' h' w' ∧ (Builtin.append_ ts ty #[p, q]).run P w = .ok u w' := by
  unfold appendOp at hop
  split at hop
  · cases hop
  · rename_i sz hsz
    have hpos : 0 < te.size := by omega
    split at hop
    · cases hop
    · -- nothing to append
      rename_i hrows
      have hel := rowsOf_sound (P := P) hr hrows hq
      obtain ⟨us, e1, e2, e3⟩ := hel.take
      have hus : us = [] := by simpa using e2
      subst hus
      have hf := e3 w rfl
      have hl := hel.len
      simp only [List.length_nil] at hf hl
      rw [← hT.size] at hf
      split at hop
      · cases hop
        have hp' : p = .slice none 0 0 := hp
        subst hp'
        exact ⟨ρ, _, w, rfl, Post.refl hr, run_append_none h0 h1 ht ht2 hT.info hl hf (Nat.le_refl _)⟩
      · split at hop
        · rename_i hle
          cases hop
          obtain ⟨l, hl0, rfl⟩ := hp
          exact ⟨ρ, _, w, ⟨l, hl0, rfl⟩, Post.refl hr, run_append_none h0 h1 ht ht2 hT.info hl hf (Nat.le_of_ble_eq_true hle)⟩
        · cases hop
      · cases hop
        obtain ⟨l, hl0, q1, q2, q3, hp'⟩ := hp
        rcases hp' with rfl | ⟨r1, r2, y, rfl⟩
        · exact ⟨ρ, _, w, ⟨l, hl0, q1, q2, q3, .inl rfl⟩, Post.refl hr, run_append_none h0 h1 ht ht2 hT.info hl hf (by omega)⟩
        · exact ⟨ρ, _, w, ⟨l, hl0, q1, q2, q3, .inr ⟨r1, r2, y, rfl⟩⟩, Post.refl hr, run_append_none h0 h1 ht ht2 hT.info hl hf (by omega)⟩
      · cases hop
        have hz : Top.has .emp p := hp
        obtain ⟨y, c, rfl⟩ := hz
        exact ⟨ρ, _, w, ⟨y, c, rfl⟩, Post.refl hr, run_append_none h0 h1 ht ht2 hT.info hl hf (Nat.zero_le _)⟩
      · cases hop
    · rename_i r0 new' hrows
      have hel := rowsOf_sound (P := P) hr hrows hq
      generalize hnew : r0 :: new' = new at hel hop
      have hnpos : 0 < new.length := by rw [← hnew]; simp
      clear hrows hnew
      obtain ⟨us, e1, e2, e3⟩ := hel.take
      dsimp only at hop
      rw [lenN_eq] at hop
      have hq1 := hel.len
      have e3d := e3 w.drew rfl
      have e3w := e3 w rfl
      rw [← hT.size] at e3d e3w
      split at hop
      · -- onto nil
        split at hop
        · rename_i hb hn
          cases hop
          have hp' : p = .slice none 0 0 := hp
          subst hp'
          have hb' := Nat.le_of_ble_eq_true hb
          have hn' := Nat.le_of_ble_eq_true hn
          have hrun := run_append_new (P := P) (ty := ty) (olds := []) (b := none) (sLen := 0) (sCap := 0) h0 h1 ht ht2 hT.info hT.zero hq1 e3d (by simp [Builtin.firstCells]) (by omega) (by omega) (by rw [hT.bytes, Nat.zero_add]; exact hb')
          have hgc := grownCap_ge w (0 + new.length) 0 e
          obtain ⟨g1, g2⟩ := grow_new (P := P) hr hpos hel.wide e1 hT rfl (c := grownCap w (0 + new.length) 0 e) (by omega)
          refine ⟨_, _, _, g2, g1, ?_⟩
          rw [hrun]; simp
        · cases hop
      · -- onto a slice whose capacity is known
        rename_i b o len cap
        split at hop
        · rename_i hb hn
          have hb' := Nat.le_of_ble_eq_true hb
          have hn' := Nat.le_of_ble_eq_true hn
          split at hop
          · rename_i hcap
            have hcap' := Nat.le_of_ble_eq_true hcap
            split at hop
            · rename_i b2 i2 len2 hslr
              split at hop
              · rename_i h2 hwr
                cases hop
                obtain ⟨l, hl0, hc⟩ := slRow_sound hslr hp
                rcases hc with ⟨c, rfl, ⟨o', he1, he2, _⟩ | ⟨he1, _⟩⟩ | ⟨he1, _⟩
                · cases he1
                  subst he2
                  obtain ⟨k1, k2⟩ := writeRows_sound (P := P) hr hwr hl0 hel.wide e1
                  refine ⟨ρ, _, _, ⟨l, hl0, rfl⟩, k2, ?_⟩
                  refine run_append_in h0 h1 ht ht2 hT.info hq1 e3w hcap' ?_
                  rw [add_plain, hT.size, Nat.add_assoc, ← Nat.add_mul]; exact k1
                · cases he1
                · cases he1
              · cases hop
            · cases hop
          · rename_i hcap
            have hcap' : ¬ (len + new.length ≤ cap) := fun hh => by rw [Nat.ble_eq_true_of_le hh] at hcap; cases hcap
            split at hop
            · cases hop
            · rename_i old hold
              cases hop
              have heo := rowsOf_sound (P := P) hr hold hp
              obtain ⟨uo, o1, o2, o3⟩ := heo.take
              obtain ⟨l, hl0, rfl⟩ := hp
              have hlo := heo.len
              simp only [Builtin.lenOf, Sem.run_pure, Result.ok.injEq, and_true] at hlo
              have o3d := o3 w.drew rfl
              rw [← hT.size, ← hlo] at o3d
              have hrun := run_append_new (P := P) (ty := ty) h0 h1 ht ht2 hT.info hT.zero hq1 e3d o3d (by omega) (by omega) (by rw [hT.bytes]; omega)
              have hgc := grownCap_ge w (len + new.length) cap e
              have hfl : (old ++ new).flatten = old.flatten ++ new.flatten := by simp
              obtain ⟨g1, g2⟩ := grow_new (P := P) hr hpos (wide_append heo.wide hel.wide) (us := uo ++ us) (by rw [hfl]; exact o1.append e1) hT rfl (c := grownCap w (len + new.length) cap e) (by simp; omega)
              have hL : (old ++ new).length = len + new.length := by simp [hlo]
              rw [hL] at g1 g2
              refine ⟨_, _, _, g2, g1, ?_⟩
              rw [hrun]; congr 3; simp
        · cases hop
      · -- onto one whose capacity is not known
        rename_i b i2 len es
        split at hop
        · rename_i hb hn
          have hb' := Nat.le_of_ble_eq_true hb
          have hn' := Nat.le_of_ble_eq_true hn
          split at hop
          · rename_i es' rs pv nx hg
            split at hop
            · rename_i hes hes'
              have q0 := Nat.eq_of_beq_eq_true hes
              have q0' := Nat.eq_of_beq_eq_true hes'
              subst q0 q0'
              obtain ⟨l, hl0, q1, q2, q3, hp'⟩ := hp
              obtain ⟨hw, hm⟩ := hr.rows hl0 hg
              have hm := hm rfl
              -- the value: its capacity, where it begins
              obtain ⟨C, a0, hC, hpp, hcase⟩ : ∃ (C a0 : Nat), C = l.room - i2 ∧ p = .slice (some ⟨l.blk, a0, none⟩) len C ∧ (a0 = l.off + i2 * te.size ∨ (len = 0 ∧ C = 0)) := by
                rcases hp' with hp' | ⟨r1, r2, y, hp'⟩
                · exact ⟨_, _, rfl, hp', .inl rfl⟩
                · exact ⟨_, y, rfl, by rw [hp', r1]; congr 1; omega, .inr ⟨r1, by omega⟩⟩
              subst hpp
              rw [lenN_eq] at hop
              split at hop
              · rename_i hin
                have hin' := Nat.le_of_ble_eq_true hin
                split at hop
                · rename_i h2 hwr
                  cases hop
                  have hroom := hm.room
                  have ha : a0 = l.off + i2 * te.size := by
                    rcases hcase with e | ⟨_, e⟩
                    · exact e
                    · omega
                  subst ha
                  obtain ⟨k1, k2⟩ := writeRows_sound (P := P) hr hwr hl0 hel.wide e1
                  refine ⟨ρ, _, _, ⟨l, hl0, q1, q2, by omega, .inl ?_⟩, k2, run_append_in h0 h1 ht ht2 hT.info hq1 e3w (sCap := C) (by omega) ?_⟩
                  · rw [hC]
                  · rw [add_plain, hT.size, Nat.add_assoc, ← Nat.add_mul]; exact k1
                · cases hop
              · split at hop
                · rename_i hnin rs' hrs'
                  cases hop
                  obtain ⟨t1, t2⟩ := (takeN_eq _ _ _).1 hrs'
                  rw [dropN_eq]
                  have hpre : ∀ (k : Nat) (r : List AV), rs'[k]? = some r → rs[k]? = some r := fun k r hk => by
                    rw [t2, List.getElem?_take] at hk
                    split at hk
                    · exact hk
                    · cases hk
                  have hrl : rs'.length = i2 + len := by rw [t2, List.length_take]; omega
                  -- the rows that the slice has
                  have htk : takeN len (dropN i2 rs) = some (rs'.drop i2) := by
                    rw [takeN_eq, dropN_eq]
                    refine ⟨by simp; omega, ?_⟩
                    rw [t2, List.drop_take, Nat.add_sub_cancel_left]
                  obtain ⟨o1, o2, uo, o3, o4, o5⟩ := rows_cells hw htk
                  have hw2 := wide_append o2 hel.wide
                  have hfl : (rs'.drop i2 ++ new).flatten = (rs'.drop i2).flatten ++ new.flatten := by simp
                  have hu2 : VL ρ (rs'.drop i2 ++ new).flatten (uo ++ us) := by rw [hfl]; exact o3.append e1
                  have hlen2 : (rs'.drop i2 ++ new).length = len + new.length := by simp [hrl]
                  by_cases hfit : len + new.length ≤ C
                  · -- in its place
                    have ha : a0 = l.off + i2 * te.size := by
                      rcases hcase with e | ⟨_, e⟩
                      · exact e
                      · omega
                    subst ha
                    have he := Pl.ext_add (ρ := ρ) (l := ⟨l.blk, l.off + i2 * te.size, l.room - i2, te.size⟩) (hr.fresh h.n (Nat.le_refl _)).2
                    have hroomle : (i2 + len) * te.size + us.length ≤ l.room * te.size := by
                      rw [e2, ← Nat.add_mul]; exact Nat.mul_le_mul_right _ (by omega)
                    have hpres : ∀ j, j < us.length → ∃ u, w.cell? ⟨l.blk, l.off + (i2 + len) * te.size + j, none⟩ = some u := fun j hj => by
                      rw [Nat.add_assoc]; exact hm.there _ (by omega)
                    have hfree : ∀ j, j < us.length → w.frozen? ⟨l.blk, l.off + (i2 + len) * te.size + j, none⟩ = false := fun j hj => by
                      rw [Nat.add_assoc]; exact hm.free _ (by omega)
                    have hrunc := run_storeCells (P := P) l.blk us (l.off + (i2 + len) * te.size) 0 w (by simpa using hpres) (by simpa using hfree) e1.one
                    have hcell := setCells_cell l.blk us (l.off + (i2 + len) * te.size) w hpres
                    have hrest := setCells_rest l.blk us (l.off + (i2 + len) * te.size) w
                    have hmay := hm.write hpres
                    refine ⟨ρ.add h.n ⟨l.blk, l.off + i2 * te.size, l.room - i2, te.size⟩, .slice (some ⟨l.blk, l.off + i2 * te.size, none⟩) (len + new.length) C, setCells w l.blk (l.off + (i2 + len) * te.size) us, ?_, ?_, ?_⟩
                    · exact ⟨_, by simp [Pl.add]; rfl, rfl, q2, by simp; omega, .inl (by simp [hC])⟩
                    · refine Post.fork hr hl0 hg (.inl rfl) (fun c hc _ => setCells_heap l.blk us _ w c hc) (by rw [setCells_size]; omega) ?_ ?_ hrest.1 hrest.2.1 hrest.2.2.1
                      · refine ⟨⟨fun k r hk => hw.width k r (hpre k r hk), fun k j r v hk hj => ?_⟩, fun _ => ⟨hmay.wide, hmay.free, hmay.there, by have := hmay.room; omega⟩⟩
                        obtain ⟨u, m1, m2⟩ := hw.cell k j r v (hpre k r hk) hj
                        refine ⟨u, m1.mono he, ?_⟩
                        have hkl : k < i2 + len := by rw [← hrl]; exact (List.getElem?_eq_some_iff.1 hk).1
                        have hjl : j < te.size := by rw [← hw.width k r (hpre k r hk)]; exact (List.getElem?_eq_some_iff.1 hj).1
                        have : (k + 1) * te.size ≤ (i2 + len) * te.size := Nat.mul_le_mul_right _ hkl
                        rw [Nat.add_mul] at this
                        rw [hcell, if_neg (by omega)]; exact m2
                      · refine ⟨rowsOk_of_flat hw2 (hu2.mono he) fun j u hj => ?_, fun _ => ⟨rfl, fun k hk => ?_, fun k hk => ?_, by rw [hlen2]; show _ ≤ l.room - i2; omega⟩⟩
                        · show (setCells w l.blk (l.off + (i2 + len) * te.size) us).cell? ⟨l.blk, l.off + i2 * te.size + j, none⟩ = some u
                          have hadd : (i2 + len) * te.size = i2 * te.size + len * te.size := Nat.add_mul _ _ _
                          rw [hcell]
                          rcases Nat.lt_or_ge j uo.length with hlt | hge
                          · rw [List.getElem?_append_left hlt] at hj
                            rw [if_neg (by omega)]; exact o5 j u hj
                          · rw [List.getElem?_append_right hge] at hj
                            have := (List.getElem?_eq_some_iff.1 hj).1
                            rw [if_pos (by omega), ← hj]; congr 1; omega
                        · have hk' : k < (l.room - i2) * te.size := hk
                          have : i2 * te.size + k < l.room * te.size := by
                            have e5 : (i2 + (l.room - i2)) * te.size = l.room * te.size := by congr 1; omega
                            rw [Nat.add_mul] at e5; omega
                          have := hmay.free _ this
                          rw [← Nat.add_assoc] at this; exact this
                        · have hk' : k < (l.room - i2) * te.size := hk
                          have : i2 * te.size + k < l.room * te.size := by
                            have e5 : (i2 + (l.room - i2)) * te.size = l.room * te.size := by congr 1; omega
                            rw [Nat.add_mul] at e5; omega
                          have := hmay.there _ this
                          rw [← Nat.add_assoc] at this; exact this
                    · refine run_append_in h0 h1 ht ht2 hT.info hq1 e3w hfit ?_
                      rw [add_plain, hT.size, Nat.add_assoc, ← Nat.add_mul]
                      simpa using hrunc
                  · -- elsewhere
                    have hlenOld : (Builtin.firstCells i.size len (.slice (some ⟨l.blk, a0, none⟩) len C)).run P w.drew = .ok uo.toArray w.drew := by
                      rw [hT.size]
                      refine run_firstCells_some (P := P) w.drew te.size len _ _ _ uo (by rw [o4]) fun j u hj => ?_
                      rw [add_plain]
                      rcases hcase with e | ⟨e, _⟩
                      · rw [e]; exact o5 j u hj
                      · have := (List.getElem?_eq_some_iff.1 hj).1
                        rw [o4, e] at this; omega
                    have hrun := run_append_new (P := P) (ty := ty) h0 h1 ht ht2 hT.info hT.zero hq1 e3d hlenOld (by omega) (by omega) (by rw [hT.bytes]; omega)
                    have hgc := grownCap_ge w (len + new.length) C e
                    generalize hcc : grownCap w (len + new.length) C e = cc at hrun hgc
                    have hzs : z.cells.size = te.size := by have := (hT.zcells ρ).length; rw [hT.zlen] at this; simpa using this
                    have he := Pl.ext_add (ρ := ρ) (l := ⟨w.heap.size, 0, cc, te.size⟩) (hr.fresh h.n (Nat.le_refl _)).2
                    have hul := hu2.length
                    rw [(flatten_get te.size _ hw2).1, hlen2] at hul
                    refine ⟨ρ.add h.n ⟨w.heap.size, 0, cc, te.size⟩, _, _, ?_, ?_, hrun⟩
                    · exact ⟨_, by simp [Pl.add]; rfl, rfl, q2, by simp; omega, .inl (by simp)⟩
                    · have hold : ∀ c, c < w.heap.size → (w.drew.alloc (.cells (uo.toArray ++ us.toArray ++ Builtin.zeroCells z.cells (cc - (len + new.length))) e)).heap[c]? = w.heap[c]? := fun c hc =>
                        RowKit.Below.heap_alloc w.drew _ c hc
                      refine Post.fork hr hl0 hg (.inr ⟨Nat.le_refl _, by simp⟩) (fun c _ hc => hold c hc) (by simp) ?_ ?_ rfl rfl rfl
                      · refine BlkOk.keep (w := w) (ρ := ρ) (x := .rows te.size rs' false none (some h.n)) ⟨⟨fun k r hk => hw.width k r (hpre k r hk), fun k j r v hk hj => hw.cell k j r v (hpre k r hk) hj⟩, fun _ => ⟨hm.wide, hm.free, hm.there, by have := hm.room; omega⟩⟩ he (hold _ (hr.inh _ _ hl0))
                      · refine BlkOk.grown (w := w.drew) hw2 (hu2.mono he) (rest := (Builtin.zeroCells z.cells (cc - (len + new.length))).toList) (by simp) ?_ (by rw [hlen2]; exact hgc) e (some b) none
                        simp only [List.length_append] at hul
                        rw [Array.size_append, Array.size_append, size_zeroCells, hzs]
                        simp only [List.size_toArray]
                        have : (len + new.length) * te.size + (cc - (len + new.length)) * te.size = cc * te.size := by rw [← Nat.add_mul]; congr 1; omega
                        omega
                · cases hop
            · cases hop
          · cases hop
        · cases hop
      · cases hop
end
end Go.Abs
