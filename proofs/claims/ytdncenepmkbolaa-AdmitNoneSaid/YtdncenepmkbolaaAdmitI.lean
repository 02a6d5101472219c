/-
  Who may wait: the next one; all that have expired.
-/
import Derived.Test.YtdncenepmkbolaaAdmitH
namespace Go.Proofs.Ytdncenepmkbolaa
open Go Go.Abs Go.Abs.S Go.Abs.W
set_option maxRecDepth 10000
set_option maxHeartbeats 4000000
noncomputable def outB (bs : List (Int × Int)) (A : List AF) : List (Int × Int) := A.foldl (fun b x => barB b (cI x.1 2).toNat (cI x.1 3, cI x.1 4)) bs
noncomputable def outW (ws : List Int) (A : List AF) : List Int := A.foldl (fun w x => w.set (cI x.1 2).toNat 0) ws
theorem outB_len (A : List AF) : ∀ bs, (outB bs A).length = bs.length := by
  induction A with
  | nil => intro bs; rfl
  | cons x A ih => intro bs; show (outB (barB bs _ _) A).length = _; rw [ih, barB_len]
theorem outW_len (A : List AF) : ∀ ws, (outW ws A).length = ws.length := by
  induction A with
  | nil => intro ws; rfl
  | cons x A ih => intro ws; show (outW (ws.set _ _) A).length = _; rw [ih, List.length_set]
theorem outB_app (bs : List (Int × Int)) (A : List AF) (x : AF) : outB bs (A ++ [x]) = barB (outB bs A) (cI x.1 2).toNat (cI x.1 3, cI x.1 4) := by unfold outB; rw [List.foldl_append]; rfl
theorem outW_app (ws : List Int) (A : List AF) (x : AF) : outW ws (A ++ [x]) = (outW ws A).set (cI x.1 2).toNat 0 := by unfold outW; rw [List.foldl_append]; rfl
theorem no_tup {v : AV} (h : v.one = true) : AV.noTup v = true := by cases v <;> first | rfl | cases h
section
variable {h h0 : Go.Abs.H} {n a s k i N : Nat} {L : List Ch} {cl q turn : Int} {stale : Bool} {v vg : AV} {cls : List Cl} {bs : List (Int × Int)} {ws : List Int} {c : Cl} {gs : List Fr}
theorem adm_out (hn : 80 ≤ n) (k : Hs h0 (LsC 29 vg (gs.map Fr.cs) :: AdC a s cl q bs ws :: L) h) (hc : 1 ≤ cl ∧ cl ≤ 6) (h6 : bs.length = 6) (w6 : ws.length = 6) (hg : ∀ g ∈ gs, ∃ i, CaOk cl i (af g)) (hgl : gs.length ≤ 64) :
    ∃ h', callX env sums n 85 [.ptr a 0, vg] h = some (vg, h') ∧ Hs h0 (LsC 29 vg (gs.map Fr.cs) :: AdC a s cl q (outB bs (gs.map af)) (outW ws (gs.map af)) :: L) h' := by
  obtain ⟨n, rfl⟩ : ∃ k, n = k + 1 := ⟨n - 1, by omega⟩
  suffices hh : W.Spec env sums (n + 1) 85 [.ptr a 0, vg] h (fun r h' => r = vg ∧ Hs h0 (LsC 29 vg (gs.map Fr.cs) :: AdC a s cl q (outB bs (gs.map af)) (outW ws (gs.map af)) :: L) h') by
    obtain ⟨r, h', e, rfl, q⟩ := hh; exact ⟨h', e, q⟩
  have hvl : lenS vg = some gs.length := by have := k.sl.len; simpa using this
  refine spec_trN [.ptr a 0, .v vg] rfl ft85 (by kernel_rfl) (tn85 ..) ?_
  simp (disch := (first | omega | assumption | rfl | (simp only [hn_new, hn_put, skip_n]; omega))) only [go_sem, hvl]
  refine ⟨fun l m H => ∃ i : Nat, l = [.int .i64 i] ∧ m = gs.length - i ∧ i ≤ gs.length ∧ Hs h0 (LsC 29 vg (gs.map Fr.cs) :: AdC a s cl q (outB bs ((gs.map af).take i)) (outW ws ((gs.map af).take i)) :: L) H, ⟨gs.length, by omega, 0, rfl, by omega, by omega, k⟩, ?_⟩
  intro n3 m4 h5 ⟨i, e, hm, hi, k5⟩
  cases e; subst hm
  by_cases hlt : (i : Int) < gs.length
  rotate_left
  · have hie : i = gs.length := by omega
    subst hie
    simp (disch := (first | omega | assumption | rfl | (simp only [hn_new, hn_put, skip_n]; omega))) only [go_sem]
    rw [List.take_of_length_le (by simp)] at k5
    exact k5
  obtain ⟨g, hgi⟩ : ∃ g, gs[i]? = some g := ⟨gs[i], List.getElem?_eq_getElem (by omega)⟩
  obtain ⟨j, hgo⟩ := hg g (List.mem_of_getElem? hgi)
  obtain ⟨cn, hcn⟩ : ∃ cn : Nat, cI (af g).1 2 = cn := ⟨(cI (af g).1 2).toNat, by have := hgo.r2; omega⟩
  have hcl := hgo.r2
  rw [hcn] at hcl
  have htk : (gs.map af).take (i + 1) = (gs.map af).take i ++ [af g] := by rw [List.take_add_one, List.getElem?_map, hgi]; rfl
  obtain ⟨b6, o7, p1, p2, _, _⟩ := k5.sl.idx (i := i) (r := g.cs) (by rw [List.getElem?_map, hgi]; rfl)
  have ov : over g.cs zeroC = some g.cs := over_full g.len
  have k11 := ((k5.new (.rows 29 [zeroC] false none none)).put (.rows 29 [g.cs] false none none))
  have g11 := k11.get
  have x2 : cellG 2 (some (.rows 29 [g.cs] false none none)) = some (.int .i64 cn) := by rw [← hcn]; exact fr_cell g (by omega) hgo.c2
  have x3 : cellG 3 (some (.rows 29 [g.cs] false none none)) = some (.int .i64 (cI (af g).1 3)) := fr_cell g (by omega) hgo.c3
  have x4 : cellG 4 (some (.rows 29 [g.cs] false none none)) = some (.int .i64 (cI (af g).1 4)) := fr_cell g (by omega) hgo.c4
  have y2 : nth g.cs 2 = some (.int .i64 cn) := by rw [fr_nth g (by omega), ← hcn]; exact hgo.c2
  have y3 : nth g.cs 3 = some (.int .i64 (cI (af g).1 3)) := by rw [fr_nth g (by omega)]; exact hgo.c3
  have y4 : nth g.cs 4 = some (.int .i64 (cI (af g).1 4)) := by rw [fr_nth g (by omega)]; exact hgo.c4
  have hl6 : (outB bs ((gs.map af).take i)).length = 6 := by rw [outB_len, h6]
  have hw6 : (outW ws ((gs.map af).take i)).length = 6 := by rw [outW_len, w6]
  have arc := arr6 (i := cn) (by omega)
  simp (disch := (first | omega | assumption | rfl | (simp only [hn_new, hn_put, skip_n]; omega))) only [go_sem, p1, p2, g.len, ov, y2, y3, y4]
  refine on2_ex (adm_bar (n := n) (by omega) k11.at3 hc hl6 hcl.2 (x := cI (af g).1 3) (y := cI (af g).1 4) hgo.r3 hgo.r4) fun h16 k16 => ?_
  have k19 := k16.more ((Keep.refl _ _).skip 7)
  have hb6 : (barB (outB bs ((gs.map af).take i)) cn (cI (af g).1 3, cI (af g).1 4)).length = 6 := by rw [barB_len, hl6]
  have gb : cellG 2 (h16.get h5.n) = some (.int .i64 cn) := by rw [k16.at2.get]; exact x2
  obtain ⟨h22, s1, s2⟩ := ad_wset k19 hb6 hw6 (i := cn) (by omega) 0
  rw [skip_get] at s1
  simp (disch := (first | omega | assumption | rfl | (simp only [hn_new, hn_put, skip_n]; omega))) only [go_sem, gb, arc, s1]
  refine ⟨gs.length - (i + 1), by omega, i + 1, by simp, rfl, by omega, ?_⟩
  rw [htk, outB_app, outW_app, hcn]
  exact s2.at2.drop.at2
/-- all calls that wait are told of -/
def CaAll (cl : Int) (cls : List Cl) : Prop := ∀ (i : Nat) (c : Cl), cls[i]? = some c → ∀ a ∈ c.qs, CaOk cl i a
theorem CaAll.aok (k : CaAll cl cls) : ∀ c ∈ cls, ∀ a ∈ c.qs, AOk a := by
  intro c hc
  obtain ⟨i, hi, he⟩ := List.getElem_of_mem hc
  exact fun a ha => (k i c (by rw [List.getElem?_eq_getElem hi, he]) a ha).aok
theorem CaAll.exp (k : CaAll cl cls) (now : Int) : CaAll cl (cls.map (expC now)) := by
  intro i c hc a ha
  rw [List.getElem?_map, Option.map_eq_some_iff] at hc
  obtain ⟨d, hd, rfl⟩ := hc
  exact k i d hd a (List.mem_filter.1 ha).1
theorem CaAll.gone (k : CaAll cl cls) {now : Int} (hg : gs.map af = expG now cls) : ∀ g ∈ gs, ∃ i, CaOk cl i (af g) := by
  intro g hm
  have : af g ∈ expG now cls := by rw [← hg]; exact List.mem_map_of_mem hm
  unfold expG at this
  rw [List.mem_flatten] at this
  obtain ⟨l, hl, ha⟩ := this
  rw [List.mem_map] at hl
  obtain ⟨c, hc, rfl⟩ := hl
  obtain ⟨i, hi, he⟩ := List.getElem_of_mem hc
  exact ⟨i, k i c (by rw [List.getElem?_eq_getElem hi, he]) _ (List.mem_filter.1 ha).1⟩
theorem expG_len {now : Int} {t : Nat} {st : Bool} (ok : ScOk N cls t st) (hN : N ≤ 16) : (expG now cls).length ≤ 64 := by
  have h1 : ∀ (l : List Cl), (∀ c ∈ l, c.qs.length ≤ N) → (expG now l).length ≤ 16 * l.length := by
    intro l
    induction l with
    | nil => intro _; simp [expG]
    | cons c r ih =>
      intro hl
      have h2 := ih fun d hd => hl d (by simp [hd])
      have h3 := hl c (by simp)
      have h4 := List.length_filter_le (late now) c.qs
      have e : expG now (c :: r) = c.qs.filter (late now) ++ expG now r := by unfold expG; simp
      rw [e, List.length_append, List.length_cons]; omega
  have := h1 cls fun c hc => (ok.ok c hc).len
  have := ok.le
  omega
theorem ad_out2 {X Y Z : Ch} (k : Hs h0 (Z :: SL s v N cls turn stale (X :: Y :: L)) h) : Hs h0 (Z :: Y :: X :: SL s v N cls turn stale L) h :=
  k.perm (((List.perm_append_comm_assoc [X, Y] (ScC s v turn stale :: LsC 4 v (cls.map Cl.row) :: rings N cls) L).symm.trans (List.Perm.swap _ _ _)).cons _)
theorem ad_in3 {X Y Z : Ch} (k : Hs h0 (X :: Y :: Z :: SL s v N cls turn stale L) h) : Hs h0 (SL s v N cls turn stale (X :: Y :: Z :: L)) h :=
  k.perm (List.perm_append_comm_assoc [X, Y, Z] (ScC s v turn stale :: LsC 4 v (cls.map Cl.row) :: rings N cls) L)
theorem ad_out3 {X Y Z : Ch} (k : Hs h0 (SL s v N cls turn stale (X :: Y :: Z :: L)) h) : Hs h0 (X :: Y :: Z :: SL s v N cls turn stale L) h :=
  k.perm (List.perm_append_comm_assoc [X, Y, Z] (ScC s v turn stale :: LsC 4 v (cls.map Cl.row) :: rings N cls) L).symm
/-- what Next comes to -/
def NextR (h0 : Go.Abs.H) (a s : Nat) (cl q : Int) (bs : List (Int × Int)) (ws : List Int) (v : AV) (N : Nat) (L : List Ch) (cls : List Cl) (t : Nat) (st : Bool) (now : Int) (r : AV) (h' : Go.Abs.H) : Prop :=
  ∃ (gs : List Fr) (vg : AV), gs.map af = expG now cls ∧
    ((r = .tup [.agg zeroC, .bool false, vg] ∧ (∀ c ∈ cls.map (expC now), c.qs = []) ∧ Hs h0 (LsC 29 vg (gs.map Fr.cs) :: AdC a s cl q (outB bs (gs.map af)) (outW ws (gs.map af)) :: SL s v N (cls.map (expC now)) (t : Int) st L) h') ∨
     (∃ (g : Fr) (j : Nat) (cls' : List Cl) (t' : Nat) (st' : Bool), r = .tup [.agg g.cs, .bool true, vg] ∧ PopR (cls.map (expC now)) t st (af g) j cls' t' st' ∧ ScOk N cls' t' st' ∧
       Hs h0 (LsC 29 vg (gs.map Fr.cs) :: AdC a s cl q (outB bs (gs.map af)) ((outW ws (gs.map af)).set (cI (af g).1 2).toNat 0) :: SL s v N cls' (t' : Int) st' L) h'))
theorem pop_ca {t t' : Nat} {st st' : Bool} {x : AF} {j : Nat} {cls' : List Cl} (k : CaAll cl cls) (p : PopR cls t st x j cls' t' st') : CaOk cl j x ∧ j < cls.length := by
  obtain ⟨_, rest, e1, _⟩ := pop_head p
  rw [List.getElem?_map, Option.map_eq_some_iff] at e1
  obtain ⟨c, hc, e⟩ := e1
  exact ⟨k j c hc x (by rw [e]; simp), (List.getElem?_eq_some_iff.1 hc).1⟩
theorem adm_next {t : Nat} {st : Bool} {now : Int} (hn : 120 ≤ n) (k : Hs h0 (AdC a s cl q bs ws :: SL s v N cls (t : Int) st L) h) (ok : ScOk N cls t st) (hN : N ≤ 16) (hc : 1 ≤ cl ∧ cl ≤ 6) (h6 : bs.length = 6) (w6 : ws.length = 6) (hca : CaAll cl cls) :
    ∃ r h', callX env sums n 55 [.ptr a 0, .int .i64 now] h = some (r, h') ∧ NextR h0 a s cl q bs ws v N L cls t st now r h' := by
  obtain ⟨n, rfl⟩ : ∃ k, n = k + 1 := ⟨n - 1, by omega⟩
  suffices hh : W.Spec env sums (n + 1) 55 [.ptr a 0, .int .i64 now] h (fun r h' => NextR h0 a s cl q bs ws v N L cls t st now r h') by
    obtain ⟨r, h', e, q⟩ := hh; exact ⟨r, h', e, q⟩
  have k1 := k.new (.rows 29 [zeroC] false none none)
  refine spec_trN [.ptr a 0, .int .i64 now] rfl ft55 (by kernel_rfl) (tn55 ..) ?_
  rw [show ∀ K, (stdN env (callX env sums n) n).new h (.rows 29 [[.int .i64 0, .int .i64 0, .int .i64 0, .int .i64 0, .int .i64 0, .int .i64 0, .int .i64 0, .int .i64 0, .str [], .str [], .int .i64 0, .int .i64 0, .str [], .int .i64 0, .int .i64 0, .int .i64 0, .int .i64 0, .int .i64 0, .int .i64 0, .int .i64 0, .str [], .str [], .int .i64 0, .int .i64 0, .nils, .int .i64 0, .int .i64 0, .int .i64 0, .int .i64 0]] false none none) K = K h.n (h.new (.rows 29 [zeroC] false none none)) from fun _ => rfl]
  generalize h.new (.rows 29 [zeroC] false none none) = H1 at k1 ⊢
  generalize h.n = b1 at k1 ⊢
  have gs0 : ∀ {X : Ch} {bs : List (Int × Int)} {ws : List Int} {R : List Ch} {H : Go.Abs.H}, Hs h0 (X :: AdC a s cl q bs ws :: R) H → cellG 0 (H.get a) = some (.ptr s 0) := fun k => by rw [k.at2.get, cellG_one _ _ _ _ _ _ (by omega) (by omega)]; rfl
  simp (disch := (first | omega | assumption | rfl | (simp only [hn_new, hn_put, skip_n]; omega))) only [go_sem, adm_none (n := n) (by omega) k1.at2, gs0 k1]
  refine on2_ex2 (s_expire (n := n) (now := now) (by omega) (sl_in2 k1) ok.ne ok.le hN (fun c hc => ⟨(ok.ok c hc).len, hca.aok c hc⟩)) fun vg h9 ⟨gs, hgs, k9⟩ => ?_
  have hgl : gs.length ≤ 64 := by have := expG_len (now := now) ok hN; rw [← hgs, List.length_map] at this; exact this
  have k9a : Hs h0 (LsC 29 vg (gs.map Fr.cs) :: AdC a s cl q bs ws :: Cell b1 (.rows 29 [zeroC] false none none) :: SL s v N (cls.map (expC now)) (t : Int) st L) h9 := by
    exact ad_out2 k9
  refine on2_ex (adm_out (n := n) (by omega) k9a hc h6 w6 (hca.gone hgs) hgl) fun h11 k11 => ?_
  have hw6 : (outW ws (gs.map af)).length = 6 := by rw [outW_len, w6]
  have hb6 : (outB bs (gs.map af)).length = 6 := by rw [outB_len, h6]
  have hnt := no_tup k11.one
  simp (disch := (first | omega | assumption | rfl | (simp only [hn_new, hn_put, skip_n]; omega))) only [go_sem, gs0 k11]
  have hpop : (∃ c ∈ cls.map (expC now), c.qs ≠ []) ∨ ∀ c ∈ cls.map (expC now), c.qs = [] := by
    by_cases hx : ∃ c ∈ cls.map (expC now), c.qs ≠ []
    · exact .inl hx
    · exact .inr fun c hc => Classical.byContradiction fun e => hx ⟨c, hc, e⟩
  rcases hpop with hsome | hnone
  · refine on2_ex2 (pop_some (n := n) (by omega) (ad_in3 k11) (ok.exp now) hsome) fun xx h14 ⟨g, j, cls', t', st', hxx, hp, ok', k14⟩ => ?_
    subst hxx
    obtain ⟨hgo, hjl⟩ := pop_ca (hca.exp now) hp
    obtain ⟨cn, hcn⟩ : ∃ cn : Nat, cI (af g).1 2 = cn := ⟨(cI (af g).1 2).toNat, by have := hgo.r2; omega⟩
    have hcl := hgo.r2
    rw [hcn] at hcl
    have arc := arr6 (i := cn) (by omega)
    have k14' := ad_out3 k14
    have ov : over g.cs zeroC = some g.cs := over_full g.len
    have ov2 : over g.cs g.cs = some g.cs := over_full rfl
    have gz := k14'.at3.get
    have k19 := k14'.at3.put (.rows 29 [g.cs] false none none)
    have k21 := k19.more ((Keep.refl _ _).skip 7)
    have y2 : nth g.cs 2 = some (.int .i64 cn) := by rw [fr_nth g (by omega), ← hcn]; exact hgo.c2
    have g21 := k21.get
    rw [skip_get] at g21
    obtain ⟨h24, s1, s2⟩ := ad_wset k21.at3 hb6 hw6 (i := cn) (by omega) 0
    rw [skip_get] at s1
    have g24 := s2.at2.get
    have k26 := s2.at2.put (.rows 29 [g.cs] false none none)
    simp (disch := (first | omega | assumption | rfl | (simp only [hn_new, hn_put, skip_n]; omega))) only [go_sem, g.len, gz, ov, y2, g21, arc, s1, g24, ov2, hnt]
    refine ⟨gs, vg, hgs, .inr ⟨g, j, cls', t', st', rfl, hp, ok', ?_⟩⟩
    rw [hcn, Int.toNat_natCast]
    exact k26.drop.at2
  · refine on2_ex (pop_none (n := n) (by omega) (ad_in3 k11) (ok.exp now) hnone) fun h14 k14 => ?_
    have k14' := ad_out3 k14
    have ov : over zeroC zeroC = some zeroC := over_full rfl
    have gz := k14'.at3.get
    have k19 := (k14'.at3.put (.rows 29 [zeroC] false none none)).put (.rows 29 [zeroC] false none none)
    have gz2 := k19.get
    simp (disch := (first | omega | assumption | rfl | (simp only [hn_new, hn_put, skip_n]; omega))) only [go_sem, show zeroC.length = 29 from rfl, gz, ov, gz2, hnt]
    refine ⟨gs, vg, hgs, .inl ⟨rfl, hnone, ?_⟩⟩
    exact k19.drop
theorem adm_flush {t : Nat} {st : Bool} (hn : 120 ≤ n) (k : Hs h0 (AdC a s cl q bs ws :: SL s v N cls (t : Int) st L) h) (ok : ScOk N cls t st) (hN : N ≤ 16) (hc : 1 ≤ cl ∧ cl ≤ 6) (h6 : bs.length = 6) (w6 : ws.length = 6) (hca : CaAll cl cls) :
    ∃ vg h', callX env sums n 59 [.ptr a 0] h = some (vg, h') ∧ ∃ gs : List Fr, gs.map af = expG 1099511627777 cls ∧ Hs h0 (LsC 29 vg (gs.map Fr.cs) :: AdC a s cl q (outB bs (gs.map af)) (outW ws (gs.map af)) :: SL s v N (cls.map (expC 1099511627777)) (t : Int) st L) h' := by
  obtain ⟨n, rfl⟩ : ∃ k, n = k + 1 := ⟨n - 1, by omega⟩
  suffices hh : W.Spec env sums (n + 1) 59 [.ptr a 0] h (fun vg h' => ∃ gs : List Fr, gs.map af = expG 1099511627777 cls ∧ Hs h0 (LsC 29 vg (gs.map Fr.cs) :: AdC a s cl q (outB bs (gs.map af)) (outW ws (gs.map af)) :: SL s v N (cls.map (expC 1099511627777)) (t : Int) st L) h') by
    obtain ⟨r, h', e, q⟩ := hh; exact ⟨r, h', e, q⟩
  have gs0 : cellG 0 (h.get a) = some (.ptr s 0) := by rw [k.get, cellG_one _ _ _ _ _ _ (by omega) (by omega)]; rfl
  refine spec_trN [.ptr a 0] rfl ft59 (by kernel_rfl) (tn59 ..) ?_
  simp (disch := (first | omega | assumption | rfl | (simp only [hn_new, hn_put, skip_n]; omega))) only [go_sem, adm_none (n := n) (by omega) k, gs0]
  refine on2_ex2 (s_expire (n := n) (now := 1099511627777) (by omega) (sl_in k) ok.ne ok.le hN (fun c hc => ⟨(ok.ok c hc).len, hca.aok c hc⟩)) fun vg h9 ⟨gs, hgs, k9⟩ => ?_
  have hgl : gs.length ≤ 64 := by have := expG_len (now := 1099511627777) ok hN; rw [← hgs, List.length_map] at this; exact this
  have k9a : Hs h0 (LsC 29 vg (gs.map Fr.cs) :: AdC a s cl q bs ws :: SL s v N (cls.map (expC 1099511627777)) (t : Int) st L) h9 := k9.perm ((List.perm_append_comm_assoc [AdC a s cl q bs ws] (ScC s v t st :: LsC 4 v ((cls.map (expC 1099511627777)).map Cl.row) :: rings N (cls.map (expC 1099511627777))) L).symm.cons _)
  refine on2_ex (adm_out (n := n) (by omega) k9a hc h6 w6 (hca.gone hgs) hgl) fun h11 k11 => ?_
  exact ⟨gs, hgs, k11⟩
end
end Go.Proofs.Ytdncenepmkbolaa
