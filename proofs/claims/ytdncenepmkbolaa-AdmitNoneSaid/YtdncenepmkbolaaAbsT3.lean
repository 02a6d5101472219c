/-
  THE RECKONING IS SOUND: reads, effects, regions, code, calls.
-/
import Derived.Test.YtdncenepmkbolaaAbsT2
import Derived.Test.YtdncenepmkbolaaAbsK
namespace Go.Abs.W
open Go Go.Abs Go.Abs.S

section
variable {E : Env} {call : CallF} {F : Nat}

theorem conv_sound {fr : T AV} {src dst : TypeId} {x : Operand} {h : H} {s : SV} (e : opnd fr x = some s.av) {K : SV → Prop} (hh : convW (std E call F) E src dst h s K) :
    ∃ s, readA E fr h (.convert src dst x) = some s.av ∧ K s := by
  unfold convW at hh
  show ∃ u : SV, (match E.tt.get src, E.tt.get dst, opnd fr x with
    | some si, some ti, some v => match ti.k, v with
      | .int k, .int _ n => some (AV.int k (k.wrap n))
      | .str, .str s => some (.str s)
      | .str, v => match si.k with
        | .slice e => match E.tt.get e with
          | some te => match te.k with
            | .int .u8 => match rowsOf h 1 v with
              | some rs => match bytesOf rs with
                | some s => some (.str s)
                | none => none
              | none => none
            | _ => none
          | none => none
        | _ => none
      | _, _ => none
    | _, _, _ => none) = some u.av ∧ K u
  rw [e]
  split at hh
  · rename_i si hsi
    rw [hsi]
    split at hh
    · rename_i ti hti
      rw [hti]
      split at hh
      · rename_i _ k k' n hk
        exact ⟨.int k (k.wrap n), by simp only [SV.av, hk], hh⟩
      · rename_i _ s hk
        exact ⟨.str s, by simp only [SV.av, hk], hh⟩
      · rename_i _ a hk
        split at hh
        · rename_i el hsk
          split at hh
          · rename_i te hte
            split at hh
            · rename_i htk
              obtain ⟨v, e1, n, e2, k⟩ := hh
              cases e2
              refine ⟨.str n, ?_, k⟩
              unfold strOf at e1
              split at e1
              · cases e1
              · rename_i hne
                split at e1
                · rename_i rs hr
                  split at e1
                  · rename_i z hz
                    cases e1
                    cases a with
                    | str y => exact absurd rfl (hne y)
                    | _ => simp only [SV.av, hk, hsk, hte, htk, hr, hz]
                  · cases e1
                · cases e1
            · exact hh.elim
          · exact hh.elim
        · exact hh.elim
      · exact hh.elim
    · exact hh.elim
  · exact hh.elim

theorem len_sound {fr : T AV} {c : Go.Call} (hc : c.callee = .builtin .len) {h : H} {vs : List SV} (e : opnds fr c.args.toList = some (vs.map SV.av)) {K : SV → Prop} (hh : lenW (std E call F) E c.argTypes.toList vs K) :
    ∃ s, readA E fr h (.call c) = some s.av ∧ K s := by
  unfold lenW at hh
  show ∃ u : SV, (match c.callee with
    | .builtin .len => match opnds fr c.args.toList with
      | some [x] => match c.argTypes.toList with
        | t :: _ => match E.tt.get t with
          | some ti => match ti.k, x with
            | .slice _, .nils => some (AV.int .i64 0)
            | .slice _, .sl _ _ n _ => some (.int .i64 n)
            | .slice _, .so _ _ n _ => some (.int .i64 n)
            | .str, .str s => some (.int .i64 (lenN s))
            | .slice _, .top .emp => some (.int .i64 0)
            | .slice _, .top (.sl a b) => some (.top (.int .i64 a b))
            | .str, .top (.str a b) => some (.top (.int .i64 a b))
            | .map .., .nilm => some (.int .i64 0)
            | _, _ => none
          | none => none
        | [] => none
      | _ => none
    | _ => none) = some u.av ∧ K u
  rw [hc, e]
  have key : ∀ (ti : TI) (el : Nat) (a : AV), ti.k = .slice el → on1 (lenS a) (fun n => K (.int .i64 n)) → ∃ u : SV, (match ti.k, a with
            | .slice _, .nils => some (AV.int .i64 0)
            | .slice _, .sl _ _ n _ => some (.int .i64 n)
            | .slice _, .so _ _ n _ => some (.int .i64 n)
            | .str, .str s => some (.int .i64 (lenN s))
            | .slice _, .top .emp => some (.int .i64 0)
            | .slice _, .top (.sl a b) => some (.top (.int .i64 a b))
            | .str, .top (.str a b) => some (.top (.int .i64 a b))
            | .map .., .nilm => some (.int .i64 0)
            | _, _ => none) = some u.av ∧ K u := fun ti el a hk ⟨n, e, k⟩ => by
    refine ⟨.int .i64 n, ?_, k⟩
    unfold lenS at e
    split at e <;> first | (cases e; simp only [hk, SV.av]; done) | (cases e; simp only [hk, SV.av]; rfl) | cases e
  split at hh
  · rename_i s
    split at hh
    · rename_i t r hts
      split at hh
      · rename_i ti hti
        simp only [List.map_cons, List.map_nil, hts, hti]
        split at hh
        · rename_i el hk
          split at hh
          · exact key _ _ _ hk hh
          · exact key _ _ _ hk hh
          · exact hh.elim
        · rename_i hk
          split at hh
          · rename_i s
            exact ⟨.int .i64 s.length, by simp only [SV.av, hk, lenN_eq], hh⟩
          · exact hh.elim
        · exact hh.elim
      · exact hh.elim
    · exact hh.elim
  · exact hh.elim

theorem read_sound {f : T SV} {fr : T AV} (hs : Sub f fr) {h : H} {op : Op} {K : SV → Prop} (hh : readW (std E call F) E f h op K) : ∃ s, readA E fr h op = some s.av ∧ K s := by
  unfold readW at hh
  split at hh
  · rename_i t x
    obtain ⟨s, e, k⟩ := lk_sound hs hh
    show ∃ u : SV, (match E.tt.get t, opnd fr x with
    | some ti, some (.ptr b o) => match h.load b o ti.size with
      | some cs => mkV ti cs
      | none => none
    | _, _ => none) = some u.av ∧ K u
    split at k
    · rename_i ti ht
      obtain ⟨b, o, e2, k⟩ := ptr_sound k
      obtain ⟨c, s, e3, e4, k⟩ := load_sound' k
      exact ⟨s, by rw [ht, e, e2]; simp only [e3]; exact e4, k⟩
    · exact k.elim
  · obtain ⟨s, e, k⟩ := lk_sound hs hh
    exact conv_sound e k
  · split at hh
    · rename_i c hc
      obtain ⟨vs, e, k⟩ := lks_sound hs hh
      exact len_sound hc e k
    · exact hh.elim
  · exact hh.elim

theorem fillR_cons (n i : Nat) (a : AV) (r : List (Nat × AV)) (rows : List (List AV)) : fillR n ((i, a) :: r) rows = match a.cellsN n with
    | some cs => match setAt rows i cs with
      | some rows => fillR n r rows
      | none => none
    | none => none := rfl

theorem rows_sound {te : TI} : ∀ {ps : List (Nat × SV)} {rs : List (List AV)} {K : List (List AV) → Prop}, rowsW (std E call F) te ps rs K → ∃ z, fillR te.size (ps.map fun p => (p.1, p.2.av)) rs = some z ∧ K z
  | [], rs, K, h => ⟨rs, rfl, h⟩
  | (i, s) :: r, rs, K, h => by
    unfold rowsW at h
    obtain ⟨cs, e, k⟩ := cells_sound h
    split at k
    · rename_i rs' e2
      obtain ⟨z, e3, k⟩ := rows_sound k
      exact ⟨z, by rw [List.map_cons, fillR_cons]; simp only [e, e2]; exact e3, k⟩
    · exact k.elim

theorem alloc_sound {f : T SV} {fr : T AV} (hs : Sub f fr) {op : Op} {K : Blk → (Nat → SV) → Prop} (hh : allocW (std E call F) E f op K) : ∃ x mk, allocA E fr op = some (x, fun b => (mk b : SV).av) ∧ K x mk := by
  unfold allocW at hh
  split at hh
  · rename_i t
    split at hh
    · rename_i ti ht
      refine ⟨_, _, ?_, hh⟩
      show (match E.tt.get t with
        | some ti => some (Blk.rows ti.size [ti.zero] false none none, fun b => AV.ptr b 0)
        | none => none) = _
      rw [ht]; rfl
    · exact hh.elim
  · rename_i t x
    split at hh
    · rename_i ti ht
      obtain ⟨s, e, k⟩ := lk_sound hs hh
      obtain ⟨cs, e2, k⟩ := cells_sound k
      refine ⟨_, _, ?_, k⟩
      show (match E.tt.get t, opnd fr x with
        | some ti, some v => match v.cellsN ti.size with
          | some cs => some (Blk.rows ti.size [cs] false none none, fun b => AV.ptr b 0)
          | none => none
        | _, _ => none) = _
      rw [ht, e]; simp only [e2]; rfl
    · exact hh.elim
  · rename_i t len ps
    split at hh
    · rename_i ti ht
      split at hh
      · rename_i el hk
        split at hh
        · rename_i te hte
          split at hh
          · rename_i m hz hb
            obtain ⟨vs, e, k⟩ := lkp_sound hs hh
            obtain ⟨rs, e2, k⟩ := rows_sound k
            refine ⟨_, _, ?_, k⟩
            show (match E.tt.get t, partsOf fr ps.toList with
              | some ti, some vs => match ti.k with
                | .slice e => match E.tt.get e with
                  | some te => match te.size, Nat.ble (len * te.size) 65536 with
                    | _ + 1, true => match fillR te.size vs (List.replicate len te.zero) with
                      | some rs => some (Blk.rows te.size rs false none none, fun b => AV.sl b 0 len len)
                      | none => none
                    | _, _ => none
                  | none => none
                | _ => none
              | _, _ => none) = _
            rw [ht, e]
            rw [hz] at e2 hb
            simp only [hk, hte, hz, hb, e2]; rfl
          · exact hh.elim
        · exact hh.elim
      · exact hh.elim
    · exact hh.elim
  · rename_i t l c
    split at hh
    · rename_i ti ht
      split at hh
      · rename_i el hk
        split at hh
        · rename_i te hte
          split at hh
          · rename_i m hz
            obtain ⟨sl, e1, k⟩ := lk_sound hs hh
            obtain ⟨sc, e2, k⟩ := lk_sound hs k
            split at k
            · rename_i k1 l' k2 c'
              obtain ⟨a, b, e3, k⟩ := k
              unfold mkS at e3
              split at e3
              · rename_i l2 c2 hl hc
                split at e3
                · rename_i q1 q2 q3
                  cases e3
                  refine ⟨_, _, ?_, k⟩
                  show (match E.tt.get t, opnd fr l, opnd fr c with
                    | some ti, some (.int _ l), some (.int _ c) => match ti.k, natOf l, natOf c with
                      | .slice e, some l, some c => match E.tt.get e with
                        | some te => match te.size, Nat.ble l c, Nat.ble (c * te.bytes) 1099511627776, Nat.ble c 1099511627776 with
                          | _ + 1, true, true, true => some (Blk.rows te.size (List.replicate c te.zero) false none none, fun b => AV.sl b 0 l c)
                          | _, _, _, _ => none
                        | none => none
                      | _, _, _ => none
                    | _, _, _ => none) = _
                  rw [ht, e1, e2]
                  simp only [SV.av, hk, hl, hc, hte, hz, q1, q2, q3]
                · cases e3
              · cases e3
            · exact k.elim
          · exact hh.elim
        · exact hh.elim
      · exact hh.elim
    · exact hh.elim
  · exact hh.elim

theorem eff_sound {f : T SV} {fr : T AV} (hs : Sub f fr) {h : H} {op : Op} {ty : TypeId} {K : SV → H → Prop} (hh : effW (std E call F) E f h op ty K) : ∃ s h', effA E call fr h op = some (s.av, h') ∧ K s h' := by
  unfold effW at hh
  split at hh
  · rename_i t a x
    split at hh
    · rename_i ti ht
      obtain ⟨sa, e1, k⟩ := lk_sound hs hh
      obtain ⟨sx, e2, k⟩ := lk_sound hs k
      obtain ⟨b, o, e3, k⟩ := ptr_sound k
      obtain ⟨cs, e4, k⟩ := cells_sound k
      obtain ⟨h', e5, k⟩ := k
      refine ⟨.v (.tup []), h', ?_, k⟩
      show (match E.tt.get t, opnd fr a, opnd fr x with
        | some ti, some (.ptr b o), some v => match v.cellsN ti.size with
          | some cs => match h.store b o cs with
            | some h => some (AV.tup [], h)
            | none => none
          | none => none
        | _, _, _ => none) = _
      rw [ht, e1, e2, e3]; simp only [e4, e5]; rfl
    · exact hh.elim
  · rename_i c
    have hv : ∀ (x : Operand), c.callee = .value x → effA E call fr h (.call c) = (match opnd fr x, opnds fr c.args.toList with
      | some (.fn f cap), some vs => call f (vs ++ cap) h
      | _, _ => none) := fun x hc => by
      show (match c.callee with
        | .value f => match opnd fr f, opnds fr c.args.toList with
          | some (.fn f cap), some vs => call f (vs ++ cap) h
          | _, _ => none
        | .invoke .. => none
        | .builtin b => match opnds fr c.args.toList, sliceElem E c.argTypes.toList with
          | some vs, some te => match b, vs with
            | .append, [s, x] => match srcOk E c.argTypes.toList with
              | true => appendOp h te.size te.bytes s x
              | false => none
            | .copy, [.nils, x] => match rowsOf h te.size x with
              | some _ => some (.int .i64 0, h)
              | none => none
            | .copy, [d, x] => match te.size, rowsOf h te.size x, slRow te.size d with
              | _ + 1, some new, some (b, i, len) => match h.writeRows te.size b i (new.take len) with
                | some h => some (.int .i64 (min (lenN new) len : Nat), h)
                | none => none
              | _, _, _ => none
            | .clear, [.nils] => some (.tup [], h)
            | .clear, [d] => match te.size, slRow te.size d with
              | _ + 1, some (b, i, len) => match h.writeRows te.size b i (List.replicate len te.zero) with
                | some h => some (.tup [], h)
                | none => none
              | _, _ => none
            | _, _ => none
          | _, _ => none) = _
      rw [hc]
    split at hh
    · rename_i g hc
      obtain ⟨vs, e, k⟩ := lks_sound hs hh
      obtain ⟨v, h', e2, k⟩ := k
      obtain ⟨s, rfl, k2⟩ := co_sound k
      refine ⟨s, h', ?_, k2⟩
      rw [hv _ hc, e]
      show call g (vs.map SV.av ++ []) h = _
      rw [List.append_nil]; exact e2
    · rename_i x _ hc
      obtain ⟨s, e1, k⟩ := lk_sound hs hh
      obtain ⟨vs, e, k⟩ := lks_sound hs k
      obtain ⟨v, h', e2, k⟩ := k
      obtain ⟨u, rfl, k2⟩ := co_sound k
      refine ⟨u, h', ?_, k2⟩
      rw [hv _ hc, e, e1]
      unfold callS at e2
      split at e2
      · rename_i g cap hg
        rw [hg]; exact e2
      · cases e2
    · rename_i b hc
      split at hh
      · rename_i te hte
        obtain ⟨vs, e, k⟩ := lks_sound hs hh
        show ∃ (s : SV) (h' : H), (match c.callee with
          | .value f => match opnd fr f, opnds fr c.args.toList with
            | some (.fn f cap), some vs => call f (vs ++ cap) h
            | _, _ => none
          | .invoke .. => none
          | .builtin b => match opnds fr c.args.toList, sliceElem E c.argTypes.toList with
            | some vs, some te => match b, vs with
              | .append, [s, x] => match srcOk E c.argTypes.toList with
                | true => appendOp h te.size te.bytes s x
                | false => none
              | .copy, [.nils, x] => match rowsOf h te.size x with
                | some _ => some (AV.int .i64 0, h)
                | none => none
              | .copy, [d, x] => match te.size, rowsOf h te.size x, slRow te.size d with
                | _ + 1, some new, some (b, i, len) => match h.writeRows te.size b i (new.take len) with
                  | some h => some (.int .i64 (min (lenN new) len : Nat), h)
                  | none => none
                | _, _, _ => none
              | .clear, [.nils] => some (.tup [], h)
              | .clear, [d] => match te.size, slRow te.size d with
                | _ + 1, some (b, i, len) => match h.writeRows te.size b i (List.replicate len te.zero) with
                  | some h => some (.tup [], h)
                  | none => none
                | _, _ => none
              | _, _ => none
            | _, _ => none) = some (s.av, h') ∧ K s h'
        rw [hc, e, hte]
        unfold builtW at k
        split at k
        · rename_i s x
          split at k
          · rename_i hok
            obtain ⟨v, h', e2, k⟩ := k
            exact ⟨.v v, h', by simp only [List.map_cons, List.map_nil, hok]; exact e2, k⟩
          · exact k.elim
        · rename_i d x
          obtain ⟨v, h', e2, k⟩ := k
          obtain ⟨u, rfl, k2⟩ := co_sound k
          refine ⟨u, h', ?_, k2⟩
          simp only [List.map_cons, List.map_nil]
          revert e2
          generalize d.av = a
          cases a <;> exact id
        · rename_i d
          obtain ⟨v, h', e2, k⟩ := k
          refine ⟨.v v, h', ?_, k⟩
          simp only [List.map_cons, List.map_nil]
          revert e2
          generalize d.av = a
          cases a <;> exact id
        · exact k.elim
      · exact hh.elim
    · exact hh.elim
  · exact hh.elim

theorem exec_sound {f : T SV} {fr : T AV} (hs : Sub f fr) {h : H} {op : Op} {ty : TypeId} {K : SV → H → Prop} (hh : execW (std E call F) E f h op ty K) : ∃ s h', execA E call fr h op = some (s.av, h') ∧ K s h' := by
  unfold execW at hh
  unfold execA
  split at hh
  · rename_i hc
    obtain ⟨s, e, k⟩ := pure_sound hs hh
    exact ⟨s, h, by simp only [hc, e], k⟩
  · rename_i hc
    obtain ⟨s, e, k⟩ := read_sound hs hh
    exact ⟨s, h, by simp only [hc, e], k⟩
  · rename_i hc
    obtain ⟨x, mk, e, k⟩ := alloc_sound hs hh
    exact ⟨mk h.n, h.new x, by simp only [hc, e], k⟩
  · rename_i hc
    obtain ⟨s, h', e, k⟩ := eff_sound hs hh
    exact ⟨s, h', by simp only [hc]; exact e, k⟩

theorem guard_sound {ops : List Oper} {f : T SV} {fr : T AV} (hs : Sub f fr) {o : Oper} {R S : T SV → Prop} (hh : guardW (std E call F) ops f o R S) :
    (wantedA ops fr o = some true ∧ ∃ f', Sub f' fr ∧ R f') ∨ (wantedA ops fr o = some false ∧ ∃ f', Sub f' fr ∧ S f') := by
  unfold guardW at hh
  unfold wantedA
  split at hh
  · rename_i hg; exact .inl ⟨by simp only [hg], f, hs, hh⟩
  · rename_i j want hg
    simp only [hg]
    split at hh
    · rename_i g hn
      split at hh
      · rename_i d hd
        simp only [hn, hd]
        split at hh
        · rename_i b hb
          have hb' := hs _ _ hb
          rw [hb']
          simp only [SV.av]
          split at hh
          · rename_i hw; exact .inl ⟨by rw [hw], f, hs, hh⟩
          · rename_i hw; exact .inr ⟨by rw [hw], f, hs, hh⟩
        · rename_i hb
          have hb' := hs _ _ hb
          rw [hb']
          exact .inr ⟨rfl, f, hs, hh⟩
        · rename_i b hb
          have hb' := hs _ _ hb
          rw [hb']
          simp only [SV.av]
          split at hh
          · obtain ⟨k1, k2⟩ := hh
            cases b with
            | true => exact .inl ⟨rfl, _, hs.same d _ (.lit true) hb rfl, k1 rfl⟩
            | false => exact .inr ⟨rfl, _, hs.same d _ (.lit false) hb rfl, k2 rfl⟩
          · obtain ⟨k1, k2⟩ := hh
            cases b with
            | true => exact .inr ⟨rfl, _, hs.same d _ (.lit true) hb rfl, k1 rfl⟩
            | false => exact .inl ⟨rfl, _, hs.same d _ (.lit false) hb rfl, k2 rfl⟩
        · exact hh.elim
      · exact hh.elim
    · exact hh.elim

theorem ops_sound {ops : List Oper} : ∀ {l : List Oper} {K : T SV → H → Prop} {f : T SV} {fr : T AV} {h : H}, Sub f fr → opsW (std E call F) E ops l K f h →
    ∃ fr' h' f', runOps E call ops l fr h = some (fr', h') ∧ Sub f' fr' ∧ K f' h'
  | [], K, f, fr, h, hs, hh => ⟨fr, h, f, rfl, hs, hh⟩
  | o :: r, K, f, fr, h, hs, hh => by
    have hh' : guardW (std E call F) ops f o (fun f => execW (std E call F) E f h o.op o.type fun s h => opsW (std E call F) E ops r K (putS f o.dst s) h) (fun f => opsW (std E call F) E ops r K (putS f o.dst .off) h) := hh
    rw [ops_cons]
    rcases guard_sound hs hh' with ⟨hw, f1, hs1, k⟩ | ⟨hw, f1, hs1, k⟩
    · rw [hw]
      obtain ⟨s, h1, e, k⟩ := exec_sound hs1 k
      obtain ⟨fr', h', f', e2, k2⟩ := ops_sound (hs1.putD o.dst s) k
      exact ⟨fr', h', f', by simp only [e]; exact e2, k2⟩
    · rw [hw]
      obtain ⟨fr', h', f', e2, k2⟩ := ops_sound (hs1.putD o.dst .off) k
      exact ⟨fr', h', f', e2, k2⟩

theorem d_sound {ops : List Oper} {base : Nat} : ∀ {l : List Oper} {K : T SV → H → List H → Prop} {i : Nat} {f : T SV} {fr : T AV} {h : H}, Sub f fr → dW (std E call F) E ops base l K i f h →
    ∃ fr' h' hs f', runD E call ops base l i fr h = some (fr', h', hs) ∧ Sub f' fr' ∧ K f' h' hs
  | [], K, i, f, fr, h, hs, hh => ⟨fr, h, [h], f, rfl, hs, hh⟩
  | o :: r, K, i, f, fr, h, hs, hh => by
    have hh' : (match cls o.op with
      | .pure => guardW (std E call F) ops f o
        (fun f => pureW (std E call F) E f o.op o.type fun s => dW (std E call F) E ops base r K (i + 1) (putS f o.dst s) h)
        (fun f => dW (std E call F) E ops base r K (i + 1) (putS f o.dst .off) h)
      | .read => guardW (std E call F) ops f o
        (fun f => readW (std E call F) E f h o.op fun s => dW (std E call F) E ops base r K (i + 1) (putS f o.dst s) h)
        (fun f => dW (std E call F) E ops base r K (i + 1) (putS f o.dst .off) h)
      | .alloc => guardW (std E call F) ops f o
        (fun f => allocW (std E call F) E f o.op fun x mk => dW (std E call F) E ops base r K (i + 1) (putS f o.dst (mk (base + i))) (h.put (base + i) x))
        (fun f => dW (std E call F) E ops base r K (i + 1) (putS f o.dst .off) h)
      | .eff => guardW (std E call F) ops f o
        (fun f => effW (std E call F) E f h o.op o.type fun s h' => dW (std E call F) E ops base r (fun f' h'' hs => K f' h'' (h :: hs)) (i + 1) (putS f o.dst s) h')
        (fun f => dW (std E call F) E ops base r (fun f' h'' hs => K f' h'' (h :: hs)) (i + 1) (putS f o.dst .off) h)) := hh
    rw [d_cons]
    split at hh'
    · rename_i hc
      simp only [hc]
      rcases guard_sound hs hh' with ⟨hw, f1, hs1, k⟩ | ⟨hw, f1, hs1, k⟩
      · obtain ⟨s, e, k⟩ := pure_sound hs1 k
        simp only [hw, e]
        exact d_sound (hs1.putD o.dst s) k
      · simp only [hw]
        exact d_sound (hs1.putD o.dst .off) k
    · rename_i hc
      simp only [hc]
      rcases guard_sound hs hh' with ⟨hw, f1, hs1, k⟩ | ⟨hw, f1, hs1, k⟩
      · obtain ⟨s, e, k⟩ := read_sound hs1 k
        simp only [hw, e]
        exact d_sound (hs1.putD o.dst s) k
      · simp only [hw]
        exact d_sound (hs1.putD o.dst .off) k
    · rename_i hc
      simp only [hc]
      rcases guard_sound hs hh' with ⟨hw, f1, hs1, k⟩ | ⟨hw, f1, hs1, k⟩
      · obtain ⟨x, mk, e, k⟩ := alloc_sound hs1 k
        simp only [hw, e]
        exact d_sound (hs1.putD o.dst (mk (base + i))) k
      · simp only [hw]
        exact d_sound (hs1.putD o.dst .off) k
    · rename_i hc
      simp only [hc]
      rcases guard_sound hs hh' with ⟨hw, f1, hs1, k⟩ | ⟨hw, f1, hs1, k⟩
      · obtain ⟨s, h1, e, k⟩ := eff_sound hs1 k
        obtain ⟨fr', h', hs', f', e2, k2⟩ := d_sound (hs1.putD o.dst s) k
        exact ⟨fr', h', h :: hs', f', by simp only [hw, e, e2], k2⟩
      · obtain ⟨fr', h', hs', f', e2, k2⟩ := d_sound (hs1.putD o.dst .off) k
        exact ⟨fr', h', h :: hs', f', by simp only [hw]; rw [show (Go.Abs.putD fr o.dst (AV.tup [])) = Go.Abs.putD fr o.dst (SV.off).av from rfl, e2], k2⟩

theorem wanted_sound {ops : List Oper} {f : T SV} {fr : T AV} (hs : Sub f fr) {o : Oper} {b : Bool} (h : wantedW ops f o = some b) : wantedA ops fr o = some b := by
  unfold wantedW at h
  unfold wantedA
  split at h
  · rename_i hg; simp only [hg]; exact h
  · rename_i j want hg
    simp only [hg]
    split at h
    · rename_i g hn
      split at h
      · rename_i d hd
        simp only [hn, hd]
        split at h
        · rename_i x hb
          rw [hs _ _ hb]; exact h
        · rename_i hb
          rw [hs _ _ hb]; exact h
        · cases h
      · cases h
    · cases h

theorem re_sound {f : T SV} {fr : T AV} (hs : Sub f fr) {h : H} {o : Oper} {K : Prop} (hh : reW (std E call F) E f h o K) :
    (∃ v d u, readA E fr h o.op = some v ∧ o.dst = some d ∧ fr.get d = some u ∧ sameV v u = true) ∧ K := by
  unfold reW at hh
  split at hh
  · exact hh.elim
  · rename_i d hd
    split at hh
    · exact hh.elim
    · rename_i u hu
      have hu' := hs _ _ hu
      split at hh
      · rename_i t x hop
        obtain ⟨s, e, k⟩ := lk_sound hs hh
        rw [hop]
        have hr : ∀ ti b o cs v, E.tt.get t = some ti → s.av = .ptr b o → h.load b o ti.size = some cs → mkV ti cs = some v → readA E fr h (.load t x) = some v := fun ti b o cs v h1 h2 h3 h4 => by
          show (match E.tt.get t, opnd fr x with
            | some ti, some (.ptr b o) => match h.load b o ti.size with
              | some cs => mkV ti cs
              | none => none
            | _, _ => none) = _
          rw [h1, e, h2]; simp only [h3]; exact h4
        split at k
        · rename_i ti ht
          obtain ⟨b, o', e2, k⟩ := ptr_sound k
          split at k
          · rename_i ha
            cases u with
            | agg cs =>
              obtain ⟨⟨e3, e4⟩, k⟩ := k
              exact ⟨⟨.agg cs, d, _, hr ti b o' cs _ ht e2 e3 (by unfold mkV; rw [ha]), hd, hu', by simp only [SV.av, sameV]; exact e4⟩, k⟩
            | _ => exact k.elim
          · rename_i ha
            split at k
            · rename_i hz
              obtain ⟨⟨e3, e4⟩, k⟩ := k
              exact ⟨⟨u.av, d, _, hr ti b o' [u.av] _ ht e2 (by rw [hz]; exact load_one e3) (by unfold mkV; rw [ha]), hd, hu', e4⟩, k⟩
            · exact k.elim
        · exact k.elim
      · rename_i c hop
        obtain ⟨s, e, k1, k2⟩ := read_sound hs hh
        exact ⟨⟨s.av, d, _, by rw [hop]; exact e, hd, hu', k1⟩, k2⟩
      · rename_i a b x hop
        obtain ⟨s, e, k1, k2⟩ := read_sound hs hh
        exact ⟨⟨s.av, d, _, by rw [hop]; exact e, hd, hu', k1⟩, k2⟩
      · exact hh.elim

theorem again_sound {ops : List Oper} {f : T SV} {fr : T AV} (hs : Sub f fr) {hl : List H} : ∀ {fl : List (Nat × Nat)} {K : Prop}, againW (std E call F) E ops f hl fl K → recheck E ops fr hl fl = true ∧ K
  | [], K, h => ⟨rfl, h⟩
  | x :: r, K, h => by
    unfold againW at h
    rw [chk_cons]
    split at h
    · rename_i h0 o e1 e2
      simp only [e1, e2]
      split at h
      · rename_i hw
        obtain ⟨⟨v, d, u, k1, k2, k3, k4⟩, k⟩ := re_sound hs h
        obtain ⟨k5, k6⟩ := again_sound hs k
        refine ⟨?_, k6⟩
        simp only [wanted_sound hs hw, k1, k2, k3, k4]; exact k5
      · rename_i hw
        obtain ⟨k5, k6⟩ := again_sound hs h
        refine ⟨?_, k6⟩
        simp only [wanted_sound hs hw]; exact k5
      · exact h.elim
    · exact h.elim

theorem region_soundW {ops : List Oper} {draw : Bool} {K : T SV → H → Prop} {f : T SV} {fr : T AV} {h : H} (hs : Sub f fr) (hh : regionW (std E call F) E ops draw K f h) :
    ∃ fr' h' f', regionA E call ops draw fr h = some (fr', h') ∧ Sub f' fr' ∧ K f' h' := by
  unfold regionW at hh
  split at hh
  · exact ops_sound hs hh
  · split at hh
    · exact hh.elim
    · rename_i fl hst
      obtain ⟨fr', h', hl, f', e, k1, k2⟩ := d_sound hs hh
      obtain ⟨k3, k4⟩ := again_sound k1 k2
      exact ⟨fr', h', f', by rw [region_d hst, e]; simp only [k3], k1, k4⟩

/-- WHAT THE RECKONING SAYS OF CODE HOLDS -/
theorem wp_sound (cuts : Code → Bool) : ∀ (c : Code) {Q : Ex → T SV → H → Prop} {f : T SV} {h : H}, wpW (std E call F) E cuts c Q f h → EvX E call F c f h Q := by
  intro c
  induction c with
  | skip => intro Q f h hh fr hs; exact ⟨.norm, fr, h, rfl, f, hs, hh⟩
  | region id ops draw =>
    intro Q f h hh fr hs
    have hh' : regionW (std E call F) E ops.toList draw (fun f h => Q .norm f h) f h := hh
    obtain ⟨fr', h', f', e, k1, k2⟩ := region_soundW hs hh'
    exact ⟨.norm, fr', h', by rw [code_region, e], f', k1, k2⟩
  | seq a b iha ihb =>
    intro Q f h hh fr hs
    have hh' : wpW (std E call F) E cuts a (seqQ (match cuts b with | true => fun Q f h => (std E call F).cut b f h Q | false => wpW (std E call F) E cuts b) Q) f h := hh
    obtain ⟨e, fr1, h1, k1, f1, k2, k3⟩ := iha hh' fr hs
    cases e with
    | norm =>
      have k4 : EvX E call F b f1 h1 Q := by
        revert k3
        generalize cuts b = cb
        intro k3
        cases cb with
        | true => exact k3
        | false => exact ihb k3
      obtain ⟨e2, fr2, h2, k5, k6⟩ := k4 fr1 k2
      exact ⟨e2, fr2, h2, by rw [code_seq, k1]; exact k5, k6⟩
    | exit j => exact ⟨.exit j, fr1, h1, by rw [code_seq, k1], f1, k2, k3⟩
    | ret => exact ⟨.ret, fr1, h1, by rw [code_seq, k1], f1, k2, k3⟩
  | cond c a b iha ihb =>
    intro Q f h hh fr hs
    have hh' : lk f c fun s => match s with
      | .lit true => wpW (std E call F) E cuts a Q f h
      | .lit false => wpW (std E call F) E cuts b Q f h
      | .bool x => match (generalizing := false) c with
        | .tmp t => (std E call F).cond x (wpW (std E call F) E cuts a Q (f.put t (.lit true)) h) (wpW (std E call F) E cuts b Q (f.put t (.lit false)) h)
        | _ => (std E call F).cond x (wpW (std E call F) E cuts a Q f h) (wpW (std E call F) E cuts b Q f h)
      | _ => False := hh
    have hl : ∃ s, look f c = some s := by
      unfold lk at hh'
      split at hh'
      · rename_i s e; exact ⟨s, e⟩
      · exact hh'.elim
    obtain ⟨s, hl⟩ := hl
    have e := look_sound hs hl
    unfold lk at hh'
    rw [hl] at hh'
    rw [code_cond, e]
    cases s with
    | lit x =>
      cases x with
      | true =>
        obtain ⟨e2, fr2, h2, k5, k6⟩ := iha hh' fr hs
        exact ⟨e2, fr2, h2, k5, k6⟩
      | false =>
        obtain ⟨e2, fr2, h2, k5, k6⟩ := ihb hh' fr hs
        exact ⟨e2, fr2, h2, k5, k6⟩
    | bool x =>
      cases c with
      | tmp t =>
        obtain ⟨k1, k2⟩ := hh'
        cases x with
        | true =>
          obtain ⟨e2, fr2, h2, k5, k6⟩ := iha (k1 rfl) fr (hs.same t _ (.lit true) hl rfl)
          exact ⟨e2, fr2, h2, k5, k6⟩
        | false =>
          obtain ⟨e2, fr2, h2, k5, k6⟩ := ihb (k2 rfl) fr (hs.same t _ (.lit false) hl rfl)
          exact ⟨e2, fr2, h2, k5, k6⟩
      | _ =>
        obtain ⟨k1, k2⟩ := hh'
        cases x with
        | true =>
          obtain ⟨e2, fr2, h2, k5, k6⟩ := iha (k1 rfl) fr hs
          exact ⟨e2, fr2, h2, k5, k6⟩
        | false =>
          obtain ⟨e2, fr2, h2, k5, k6⟩ := ihb (k2 rfl) fr hs
          exact ⟨e2, fr2, h2, k5, k6⟩
    | _ => exact hh'.elim
  | block id a iha =>
    intro Q f h hh fr hs
    have hh' : wpW (std E call F) E cuts a (blockQ id Q) f h := hh
    obtain ⟨e, fr1, h1, k1, f1, k2, k3⟩ := iha hh' fr hs
    rw [code_block, k1]
    cases e with
    | norm => exact ⟨.norm, fr1, h1, rfl, f1, k2, k3⟩
    | exit j =>
      change (match Nat.beq j id with | true => Q .norm f1 h1 | false => Q (.exit j) f1 h1) at k3
      split at k3
      · rename_i hj; exact ⟨.norm, fr1, h1, by simp only [hj], f1, k2, k3⟩
      · rename_i hj; exact ⟨.exit j, fr1, h1, by simp only [hj], f1, k2, k3⟩
    | ret => exact ⟨.ret, fr1, h1, rfl, f1, k2, k3⟩
  | loop c _ => intro Q f h hh; exact hh
  | rangeFunc f ps as b _ _ => intro Q f h hh; exact hh.elim
  | exit id => intro Q f h hh fr hs; exact ⟨.exit id, fr, h, rfl, f, hs, hh⟩
  | scope b ih =>
    intro Q f h hh fr hs
    have hh' : wpW (std E call F) E cuts b Q f h := hh
    obtain ⟨e2, fr2, h2, k5, k6⟩ := ih hh' fr hs
    exact ⟨e2, fr2, h2, k5, k6⟩
  | label l => intro Q f h hh fr hs; exact ⟨.norm, fr, h, rfl, f, hs, hh⟩
  | goto l => intro Q f h hh; exact hh.elim
  | ret => intro Q f h hh fr hs; exact ⟨.ret, fr, h, rfl, f, hs, hh⟩
  | refuse s => intro Q f h hh; exact hh.elim

/-! loops -/
/-- from each turn to a lesser one, or out -/
theorem loop_rule {b : Code} {Q : Ex → T SV → H → Prop} (I : Nat → T SV → H → Prop)
    (hb : ∀ m f h, I m f h → EvX E call F b f h fun e f' h' => match e with
      | .norm => ∃ m', m' < m ∧ I m' f' h'
      | .exit j => Q (.exit j) f' h'
      | .ret => Q .ret f' h')
    {m : Nat} {f : T SV} {h : H} (hm : m < F) (hi : I m f h) : EvX E call F (.loop b) f h Q := by
  intro fr hs
  show ∃ e fr' h', loopA (codeA E call F b) F fr h = some (e, fr', h') ∧ ∃ f', Sub f' fr' ∧ Q e f' h'
  have key : ∀ (n m : Nat) (f : T SV) (fr : T AV) (h : H), m < n → I m f h → Sub f fr → ∃ e fr' h', loopA (codeA E call F b) n fr h = some (e, fr', h') ∧ ∃ f', Sub f' fr' ∧ Q e f' h' := by
    intro n
    induction n with
    | zero => intro m f fr h hm; omega
    | succ n ih =>
      intro m f fr h hm hi hs
      obtain ⟨e, fr1, h1, k1, f1, k2, k3⟩ := hb m f h hi fr hs
      rw [loopA_succ, k1]
      cases e with
      | norm =>
        obtain ⟨m', k4, k5⟩ := k3
        exact ih m' f1 fr1 h1 (by omega) k5 k2
      | exit j => exact ⟨.exit j, fr1, h1, rfl, f1, k2, k3⟩
      | ret => exact ⟨.ret, fr1, h1, rfl, f1, k2, k3⟩
  exact key F m f fr h hm hi hs

/-- fewer slots -/
theorem EvX.less {c : Code} {f f0 : T SV} {h : H} {Q : Ex → T SV → H → Prop} (k : EvX E call F c f0 h Q) (hl : ∀ i s, f0.get i = some s → ∃ u, f.get i = some u ∧ u.av = s.av) : EvX E call F c f h Q := fun fr hs =>
  k fr fun i s hi => by
    obtain ⟨u, k1, k2⟩ := hl i s hi
    rw [hs i u k1, k2]
theorem EvX.mono {c : Code} {f : T SV} {h : H} {Q Q' : Ex → T SV → H → Prop} (k : EvX E call F c f h Q) (hq : ∀ e f h, Q e f h → Q' e f h) : EvX E call F c f h Q' := fun fr hs => by
  obtain ⟨e, fr1, h1, k1, f1, k2, k3⟩ := k fr hs
  exact ⟨e, fr1, h1, k1, f1, k2, hq _ _ _ k3⟩

theorem keep_sub {f : T SV} {fr : T AV} (hs : Sub f fr) (l : List Nat) : Sub (keep l f) fr := by
  have key : ∀ (l : List Nat) (t : T SV), Sub t fr → Sub (l.foldl (fun t k => match f.get k with | some s => t.put k s | none => t) t) fr := by
    intro l
    induction l with
    | nil => intro t h; exact h
    | cons k l ih =>
      intro t h
      refine ih _ ?_
      show Sub (match f.get k with | some s => t.put k s | none => t) fr
      cases hk : f.get k with
      | none => exact h
      | some s =>
        intro j u hu
        simp only [T.get_put] at hu
        split at hu
        · rename_i e; cases hu; subst e; exact hs _ _ hk
        · exact h j u hu
  exact key l .nil (Sub.nil _)
theorem EvX.kept {c : Code} {f : T SV} {h : H} {Q : Ex → T SV → H → Prop} {l : List Nat} (k : EvX E call F c f h (keepQ l Q)) : EvX E call F c f h Q := fun fr hs => by
  obtain ⟨e, fr1, h1, k1, f1, k2, k3⟩ := k fr hs
  exact ⟨e, fr1, h1, k1, _, keep_sub k2 l, k3⟩
/-- a piece of code, by its tree -/
theorem ev_tr {c : Code} {f : T SV} {h : H} {Q : Ex → T SV → H → Prop} {l : List Nat} {T : Prop} (ht : wpW (std E call F) E nocut c (keepQ l Q) f h = T) (k : T) : EvX E call F c f h Q :=
  EvX.kept (wp_sound nocut c (by rw [ht]; exact k))

theorem ev_seq {a b : Code} {f : T SV} {h : H} {Q : Ex → T SV → H → Prop} (k : EvX E call F a f h fun e f h => match e with
    | .norm => EvX E call F b f h Q
    | .exit j => Q (.exit j) f h
    | .ret => Q .ret f h) : EvX E call F (.seq a b) f h Q := fun fr hs => by
  obtain ⟨e, fr1, h1, k1, f1, k2, k3⟩ := k fr hs
  rw [code_seq, k1]
  cases e with
  | norm => exact k3 fr1 k2
  | exit j => exact ⟨_, fr1, h1, rfl, f1, k2, k3⟩
  | ret => exact ⟨_, fr1, h1, rfl, f1, k2, k3⟩
theorem ev_block {id : Nat} {a : Code} {f : T SV} {h : H} {Q : Ex → T SV → H → Prop} (k : EvX E call F a f h fun e f h => match e with
    | .norm => Q .norm f h
    | .exit j => if j = id then Q .norm f h else Q (.exit j) f h
    | .ret => Q .ret f h) : EvX E call F (.block id a) f h Q := fun fr hs => by
  obtain ⟨e, fr1, h1, k1, f1, k2, k3⟩ := k fr hs
  rw [code_block, k1]
  cases e with
  | norm => exact ⟨_, fr1, h1, rfl, f1, k2, k3⟩
  | exit j =>
    by_cases hj : j = id
    · subst hj
      simp only [if_true] at k3
      exact ⟨.norm, fr1, h1, by simp, f1, k2, k3⟩
    · simp only [hj, if_false] at k3
      have hb : Nat.beq j id = false := by
        cases hb : Nat.beq j id with
        | false => rfl
        | true => exact absurd (Nat.eq_of_beq_eq_true hb) hj
      exact ⟨.exit j, fr1, h1, by simp only [hb], f1, k2, k3⟩
  | ret => exact ⟨_, fr1, h1, rfl, f1, k2, k3⟩
theorem ev_scope {a : Code} {f : T SV} {h : H} {Q : Ex → T SV → H → Prop} (k : EvX E call F a f h Q) : EvX E call F (.scope a) f h Q := k
theorem ev_skip {f : T SV} {h : H} {Q : Ex → T SV → H → Prop} (k : Q .norm f h) : EvX E call F .skip f h Q := fun fr hs => ⟨.norm, fr, h, rfl, f, hs, k⟩
theorem ev_ret {f : T SV} {h : H} {Q : Ex → T SV → H → Prop} (k : Q .ret f h) : EvX E call F .ret f h Q := fun fr hs => ⟨.ret, fr, h, rfl, f, hs, k⟩

/-! results -/
theorem resW_sound {f : T SV} {fr : T AV} (hs : Sub f fr) {h : H} : ∀ {l : List ResultVar} {K : List SV → Prop}, resW (std E call F) E f h l K → ∃ ss, resA E fr h l = some (ss.map SV.av) ∧ K ss
  | [], K, hh => ⟨[], rfl, hh⟩
  | .tmp t :: r, K, hh => by
    unfold resW at hh
    split at hh
    · rename_i s e
      obtain ⟨ss, e2, k⟩ := resW_sound hs hh
      exact ⟨s :: ss, by rw [res_tmp, hs _ _ e]; simp only [e2]; rfl, k⟩
    · exact hh.elim
  | .cell a t :: r, K, hh => by
    unfold resW at hh
    split at hh
    · rename_i s e
      split at hh
      · rename_i ti ht
        obtain ⟨b, o, e1, k⟩ := ptr_sound hh
        obtain ⟨c, u, e3, e4, k⟩ := load_sound' k
        obtain ⟨ss, e2, k⟩ := resW_sound hs k
        exact ⟨u :: ss, by rw [res_cell, ht, hs _ _ e, e1]; simp only [e3, e4, e2]; rfl, k⟩
      · exact hh.elim
    · exact hh.elim

theorem nt_sound : ∀ {l : List SV} {K : Prop}, ntW (std E call F) l K → (l.map SV.av).all AV.noTup = true ∧ K
  | [], K, h => ⟨rfl, h⟩
  | s :: r, K, h => by
    unfold ntW at h
    split at h
    · rename_i e; cases e
    · rename_i a r' e; cases e
      obtain ⟨h1, h2⟩ := h
      obtain ⟨h3, h4⟩ := nt_sound h2
      exact ⟨by rw [List.map_cons, List.all_cons, h3, Bool.and_true]; exact h1, h4⟩
    · exact h.elim
    · rename_i a r' e; cases e
      obtain ⟨h1, h2⟩ := h
      obtain ⟨h3, h4⟩ := nt_sound h2
      exact ⟨by rw [List.map_cons, List.all_cons, h3, Bool.and_true]; exact h1, h4⟩
    · rename_i x r' h1 h2 h0 e
      cases e
      obtain ⟨h4, h5⟩ := nt_sound h
      refine ⟨?_, h5⟩
      rw [List.map_cons, List.all_cons, h4, Bool.and_true]
      cases s <;> first | rfl | (exfalso; apply h1; rfl) | (exfalso; apply h2; rfl) | (exfalso; apply h0; rfl)

theorem fin_sound {f : T SV} {fr : T AV} (hs : Sub f fr) {h : H} {fn : Func} {K : AV → H → Prop} (hh : finW (std E call F) E fn.results.toList K f h) : ∃ v h', finishA E fn fr h = some (v, h') ∧ K v h' := by
  unfold finW at hh
  obtain ⟨ss, e, k⟩ := resW_sound hs hh
  unfold finishA
  rw [e]
  split at k
  · exact ⟨_, h, rfl, k⟩
  · exact ⟨_, h, rfl, k⟩
  · rename_i s u r
    obtain ⟨k1, k2⟩ := nt_sound k
    refine ⟨_, h, ?_, k2⟩
    have k1' : (s.av.noTup && (u.av :: r.map SV.av).all AV.noTup) = true := k1
    simp only [List.map_cons, oneOrTup, k1']

/-- a call that comes to an end -/
def Spec (E : Env) (S : FuncId → Option AV) (n : Nat) (f : FuncId) (args : List AV) (h : H) (K : AV → H → Prop) : Prop := ∃ v h', callX E S n f args h = some (v, h') ∧ K v h'
theorem Spec.mono {S : FuncId → Option AV} {n : Nat} {f : FuncId} {args : List AV} {h : H} {K K' : AV → H → Prop} (k : Spec E S n f args h K) (hk : ∀ v h, K v h → K' v h) : Spec E S n f args h K' := by
  obtain ⟨v, h', e, k⟩ := k; exact ⟨v, h', e, hk _ _ k⟩

theorem initS_sub : ∀ (l : List SV) (i : Nat) (f : T SV) (fr : T AV), Sub f fr → Sub (initS l i f) (initFr (l.map SV.av) i fr)
  | [], _, _, _, h => h
  | s :: r, i, f, fr, h => initS_sub r (i + 1) (f.put i s) (fr.put i s.av) (h.put i s)

theorem spec_ev {S : FuncId → Option AV} {n : Nat} {f : FuncId} {fn : Func} {c : Code} {ss : List SV} {h : H} {K : AV → H → Prop} (hS : S f = none) (hf : E.ft.get f = some fn) (hc : fn.body = some c) (hk : (codeOk fn.ntmps c && notNG fn) = true) (hl : Nat.ble ss.length fn.ntmps = true)
    (k : EvX E (callX E S n) n c (initS ss 0 .nil) h (endQ (std E (callX E S n) n) E fn.results.toList K)) : Spec E S (n + 1) f (ss.map SV.av) h K := by
  obtain ⟨e, fr1, h1, k1, f1, k2, k3⟩ := k (initFr (ss.map SV.av) 0 .nil) (initS_sub ss 0 .nil .nil (Sub.nil _))
  have hl' : Nat.ble (ss.map SV.av).length fn.ntmps = true := by simpa using hl
  unfold Spec
  rw [callX_f hS hf hc hk hl', k1]
  cases e with
  | norm => exact fin_sound k2 k3
  | ret => exact fin_sound k2 k3
  | exit j => exact k3.elim

theorem spec_wp {S : FuncId → Option AV} {n : Nat} {f : FuncId} {fn : Func} {c : Code} (cuts : Code → Bool) (ss : List SV) {h : H} {K : AV → H → Prop} (hS : S f = none) (hf : E.ft.get f = some fn) (hc : fn.body = some c) (hk : (codeOk fn.ntmps c && notNG fn) = true) (hl : Nat.ble ss.length fn.ntmps = true)
    (k : wpW (std E (callX E S n) n) E cuts c (endQ (std E (callX E S n) n) E fn.results.toList K) (initS ss 0 .nil) h) : Spec E S (n + 1) f (ss.map SV.av) h K :=
  spec_ev hS hf hc hk hl (wp_sound cuts c k)
end
end Go.Abs.W
