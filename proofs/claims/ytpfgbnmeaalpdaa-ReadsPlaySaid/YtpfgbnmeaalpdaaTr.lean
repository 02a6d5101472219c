/-
  What the functions come to, reckoned by the text alone.
-/
import Derived.Test.YtpfgbnmeaalpdaaAbsN
import Derived.Test.YtpfgbnmeaalpdaaEnv
namespace Go.Proofs.Ytpfgbnmeaalpdaa
open Go Go.Abs Go.Abs.W
set_option maxRecDepth 100000
theorem ft11 : env.ft.get 11 = some Try.f11 := by kernel_rfl
theorem tr11 (p : Pr) (K : AV → Go.Abs.H → Prop) (h : Go.Abs.H) (n0 : Int) : wpW p env nocut (bodyOf Try.f11) (endQ p env Try.f11.results.toList K) (initS [SV.int IntKind.i64 n0] 0 .nil) h = (
  p.cond (decide (n0 < (1 : Int))) (p.nt AV.nilp (K (AV.tup [AV.nilp, AV.int IntKind.i64 (2 : Int)]) h)) (p.cond (decide ((16 : Int) < n0)) (p.nt AV.nilp (K (AV.tup [AV.nilp, AV.int IntKind.i64 (2 : Int)]) h)) (p.len (3 : Nat) [AV.int IntKind.i64 n0, AV.nils, AV.int IntKind.i64 (0 : Int)] (p.new h (Blk.rows (3 : Nat) [[AV.int IntKind.i64 n0, AV.nils, AV.int IntKind.i64 (0 : Int)]] false none none) fun b0 h1 => K (AV.tup [AV.ptr b0 (0 : Nat), AV.int IntKind.i64 (0 : Int)]) h1)))) := by kernel_rfl

theorem ft12 : env.ft.get 12 = some Try.f12 := by kernel_rfl
theorem tr12 (p : Pr) (K : AV → Go.Abs.H → Prop) (h : Go.Abs.H) (b0 : Nat) (o0 : Nat) : wpW p env nocut (bodyOf Try.f12) (endQ p env Try.f12.results.toList K) (initS [SV.ptr b0 o0] 0 .nil) h = (
  p.call (56 : Nat) [AV.ptr b0 o0, AV.fn (57 : Nat) []] h fun v0 h1 => K v0 h1) := by kernel_rfl

theorem ft13 : env.ft.get 13 = some Try.f13 := by kernel_rfl
theorem tr13 (p : Pr) (K : AV → Go.Abs.H → Prop) (h : Go.Abs.H) (b0 : Nat) (o0 : Nat) (n1 : Int) : wpW p env nocut (bodyOf Try.f13) (endQ p env Try.f13.results.toList K) (initS [SV.ptr b0 o0, SV.int IntKind.i64 n1] 0 .nil) h = (
  p.new h (Blk.rows (1 : Nat) [[AV.int IntKind.i64 n1]] false none none) fun b0_1 h1 => p.call (56 : Nat) [AV.ptr b0 o0, AV.fn (58 : Nat) [AV.ptr b0_1 (0 : Nat)]] h1 fun v2 h3 => K v2 h3) := by kernel_rfl

theorem ft14 : env.ft.get 14 = some Try.f14 := by kernel_rfl
theorem tr14 (p : Pr) (K : AV → Go.Abs.H → Prop) (h : Go.Abs.H) (b0 : Nat) (o0 : Nat) (n1 : Int) : wpW p env nocut (bodyOf Try.f14) (endQ p env Try.f14.results.toList K) (initS [SV.ptr b0 o0, SV.int IntKind.i64 n1] 0 .nil) h = (
  p.new h (Blk.rows (1 : Nat) [[AV.int IntKind.i64 n1]] false none none) fun b0_1 h1 => p.call (56 : Nat) [AV.ptr b0 o0, AV.fn (59 : Nat) [AV.ptr b0_1 (0 : Nat)]] h1 fun v2 h3 => K v2 h3) := by kernel_rfl

theorem ft15 : env.ft.get 15 = some Try.f15 := by kernel_rfl
theorem tr15 (p : Pr) (K : AV → Go.Abs.H → Prop) (h : Go.Abs.H) (b0 : Nat) (o0 : Nat) (cs1 : List AV) (cs2 : List AV) : wpW p env nocut (bodyOf Try.f15) (endQ p env Try.f15.results.toList K) (initS [SV.ptr b0 o0, SV.agg cs1, SV.agg cs2] 0 .nil) h = (
  p.len (29 : Nat) cs1 (p.new h (Blk.rows (29 : Nat) [cs1] false none none) fun b0_1 h1 => p.len (4 : Nat) cs2 (p.new h1 (Blk.rows (4 : Nat) [cs2] false none none) fun b2 h3 => p.call (60 : Nat) [AV.ptr b0 o0] h3 fun v4 h5 => p.asB v4 fun c6 => p.cond c6 (K (AV.tup [AV.int IntKind.i64 (0 : Int), AV.int IntKind.i64 (1 : Int)]) h5) (p.skip h5 (11 : Nat) fun b7 h8 => p.ld1 h8 b0 (o0 + (1 : Nat)) fun a9 => p.slen a9 fun k10 => p.ldI IntKind.i64 h8 b0 (o0 + (0 : Nat)) fun n11 => p.cond (decide (n11 ≤ (↑k10 : Int))) (K (AV.tup [AV.int IntKind.i64 (0 : Int), AV.int IntKind.i64 (60 : Int)]) h8) (p.ldI IntKind.i64 h8 b0 (o0 + (2 : Nat)) fun n12 => p.st h8 b0 (o0 + (2 : Nat)) [AV.int IntKind.i64 (IntKind.i64.wrap (n12 + (1 : Int)))] fun h13 => p.skip h13 (17 : Nat) fun b14 h15 => p.ld1 h15 b0 (o0 + (1 : Nat)) fun a16 => p.ldI IntKind.i64 h15 b0 (o0 + (2 : Nat)) fun n17 => p.ldA (29 : Nat) h15 b0_1 (0 : Nat) fun cs18 => p.ldA (4 : Nat) h15 b2 (0 : Nat) fun cs19 => p.over (29 : Nat) cs18 (1 : Nat) [AV.int IntKind.i64 n17, AV.int IntKind.i64 (0 : Int), AV.int IntKind.i64 (0 : Int), AV.int IntKind.i64 (0 : Int), AV.int IntKind.i64 (0 : Int), AV.int IntKind.i64 (0 : Int), AV.int IntKind.i64 (0 : Int), AV.int IntKind.i64 (0 : Int), AV.int IntKind.i64 (0 : Int), AV.str [], AV.str [], AV.int IntKind.i64 (0 : Int), AV.int IntKind.i64 (0 : Int), AV.str [], AV.int IntKind.i64 (0 : Int), AV.int IntKind.i64 (0 : Int), AV.int IntKind.i64 (0 : Int), AV.int IntKind.i64 (0 : Int), AV.int IntKind.i64 (0 : Int), AV.int IntKind.i64 (0 : Int), AV.int IntKind.i64 (0 : Int), AV.str [], AV.str [], AV.int IntKind.i64 (0 : Int), AV.int IntKind.i64 (0 : Int), AV.nils, AV.int IntKind.i64 (0 : Int), AV.int IntKind.i64 (0 : Int), AV.int IntKind.i64 (0 : Int), AV.int IntKind.i64 (0 : Int), AV.int IntKind.i64 (0 : Int), AV.str [], AV.int IntKind.i64 (0 : Int), AV.int IntKind.i64 (0 : Int)] fun cs20 => p.over (4 : Nat) cs19 (30 : Nat) cs20 fun cs21 => p.len (34 : Nat) cs21 (p.newAt h15 (b14 + (12 : Nat)) (Blk.rows (34 : Nat) [cs21] false none none) fun h22 => p.app (34 : Nat) (336 : Nat) h22 a16 (AV.sl (b14 + (12 : Nat)) (0 : Nat) (1 : Nat) (1 : Nat)) fun v23 h24 => p.one v23 (p.st h24 b0 (o0 + (1 : Nat)) [v23] fun h25 => p.ldI IntKind.i64 h25 b0 (o0 + (2 : Nat)) fun n26 => K (AV.tup [AV.int IntKind.i64 n26, AV.int IntKind.i64 (0 : Int)]) h25))))))) := by kernel_rfl

theorem ft16 : env.ft.get 16 = some Try.f16 := by kernel_rfl
theorem tr16 (p : Pr) (K : AV → Go.Abs.H → Prop) (h : Go.Abs.H) (b0 : Nat) (o0 : Nat) : wpW p env nocut (bodyOf Try.f16) (endQ p env Try.f16.results.toList K) (initS [SV.ptr b0 o0] 0 .nil) h = (
  p.call (60 : Nat) [AV.ptr b0 o0] h fun v0 h1 => p.asB v0 fun c2 => p.cond c2 (K (AV.int IntKind.i64 (0 : Int)) h1) (p.ld1 h1 b0 (o0 + (1 : Nat)) fun a3 => p.slen a3 fun k4 => K (AV.int IntKind.i64 (↑k4 : Int)) h1)) := by kernel_rfl

theorem ft57 : env.ft.get 57 = some Try.f57 := by kernel_rfl
theorem tr57 (p : Pr) (K : AV → Go.Abs.H → Prop) (h : Go.Abs.H) (cs0 : List AV) : wpW p env nocut (bodyOf Try.f57) (endQ p env Try.f57.results.toList K) (initS [SV.agg cs0] 0 .nil) h = (
  p.len (34 : Nat) cs0 (p.new h (Blk.rows (34 : Nat) [cs0] false none none) fun b0 h1 => K (AV.bool true) h1)) := by kernel_rfl

theorem ft58 : env.ft.get 58 = some Try.f58 := by kernel_rfl
theorem tr58 (p : Pr) (K : AV → Go.Abs.H → Prop) (h : Go.Abs.H) (cs0 : List AV) (b1 : Nat) (o1 : Nat) : wpW p env nocut (bodyOf Try.f58) (endQ p env Try.f58.results.toList K) (initS [SV.agg cs0, SV.ptr b1 o1] 0 .nil) h = (
  p.len (34 : Nat) cs0 (p.new h (Blk.rows (34 : Nat) [cs0] false none none) fun b0 h1 => p.ldI IntKind.i64 h1 b0 (0 : Nat) fun n2 => p.ldI IntKind.i64 h1 b1 o1 fun n3 => K (AV.bool (decide (n2 ≤ n3))) h1)) := by kernel_rfl

theorem ft59 : env.ft.get 59 = some Try.f59 := by kernel_rfl
theorem tr59 (p : Pr) (K : AV → Go.Abs.H → Prop) (h : Go.Abs.H) (cs0 : List AV) (b1 : Nat) (o1 : Nat) : wpW p env nocut (bodyOf Try.f59) (endQ p env Try.f59.results.toList K) (initS [SV.agg cs0, SV.ptr b1 o1] 0 .nil) h = (
  p.len (34 : Nat) cs0 (p.new h (Blk.rows (34 : Nat) [cs0] false none none) fun b0 h1 => p.ldI IntKind.i64 h1 b0 (7 : Nat) fun n2 => p.ldI IntKind.i64 h1 b1 o1 fun n3 => K (AV.bool (decide (n2 < n3))) h1)) := by kernel_rfl

theorem ft60 : env.ft.get 60 = some Try.f60 := by kernel_rfl
theorem tr60 (p : Pr) (K : AV → Go.Abs.H → Prop) (h : Go.Abs.H) (b0 : Nat) (o0 : Nat) : wpW p env nocut (bodyOf Try.f60) (endQ p env Try.f60.results.toList K) (initS [SV.ptr b0 o0] 0 .nil) h = (
  p.opt (binop env BinOp.eql (25 : Nat) (AV.ptr b0 o0) AV.nilp) fun a0 => p.asB a0 fun c1 => p.cond c1 (K (AV.bool true) h) (p.ldI IntKind.i64 h b0 (o0 + (0 : Nat)) fun n2 => K (AV.bool (decide (n2 = (0 : Int)))) h)) := by kernel_rfl

theorem cs56_ : sub [] (bodyOf Try.f56) = .seq (sub [0] (bodyOf Try.f56)) (sub [1] (bodyOf Try.f56)) := by kernel_rfl
theorem cs56_1 : sub [1] (bodyOf Try.f56) = .seq (sub [1, 0] (bodyOf Try.f56)) (sub [1, 1] (bodyOf Try.f56)) := by kernel_rfl
theorem cs56_11 : sub [1, 1] (bodyOf Try.f56) = .seq (sub [1, 1, 0] (bodyOf Try.f56)) (sub [1, 1, 1] (bodyOf Try.f56)) := by kernel_rfl
theorem cs56_111 : sub [1, 1, 1] (bodyOf Try.f56) = .seq (sub [1, 1, 1, 0] (bodyOf Try.f56)) (sub [1, 1, 1, 1] (bodyOf Try.f56)) := by kernel_rfl
theorem cs56_1110 : sub [1, 1, 1, 0] (bodyOf Try.f56) = .seq (sub [1, 1, 1, 0, 0] (bodyOf Try.f56)) (sub [1, 1, 1, 0, 1] (bodyOf Try.f56)) := by kernel_rfl
theorem cs56_11101 : sub [1, 1, 1, 0, 1] (bodyOf Try.f56) = .block 0 (sub [1, 1, 1, 0, 1, 0] (bodyOf Try.f56)) := by kernel_rfl
theorem cs56_111010 : sub [1, 1, 1, 0, 1, 0] (bodyOf Try.f56) = .loop (sub [1, 1, 1, 0, 1, 0, 0] (bodyOf Try.f56)) := by kernel_rfl
theorem cs56_1110100 : sub [1, 1, 1, 0, 1, 0, 0] (bodyOf Try.f56) = .seq (sub [1, 1, 1, 0, 1, 0, 0, 0] (bodyOf Try.f56)) (sub [1, 1, 1, 0, 1, 0, 0, 1] (bodyOf Try.f56)) := by kernel_rfl
theorem cs56_11101001 : sub [1, 1, 1, 0, 1, 0, 0, 1] (bodyOf Try.f56) = .seq (sub [1, 1, 1, 0, 1, 0, 0, 1, 0] (bodyOf Try.f56)) (sub [1, 1, 1, 0, 1, 0, 0, 1, 1] (bodyOf Try.f56)) := by kernel_rfl
theorem cs56_111010011 : sub [1, 1, 1, 0, 1, 0, 0, 1, 1] (bodyOf Try.f56) = .seq (sub [1, 1, 1, 0, 1, 0, 0, 1, 1, 0] (bodyOf Try.f56)) (sub [1, 1, 1, 0, 1, 0, 0, 1, 1, 1] (bodyOf Try.f56)) := by kernel_rfl
theorem cs56_1110100110 : sub [1, 1, 1, 0, 1, 0, 0, 1, 1, 0] (bodyOf Try.f56) = .block 1 (sub [1, 1, 1, 0, 1, 0, 0, 1, 1, 0, 0] (bodyOf Try.f56)) := by kernel_rfl
theorem tr56a (p : Pr) (Q : Ex → T SV → Go.Abs.H → Prop) (h : Go.Abs.H) (b0 : Nat) (o0 : Nat) (a1 : AV) : wpW p env nocut (sub [0] (bodyOf Try.f56)) (keepQ [0, 1] Q) (frS [((0 : Nat), SV.ptr b0 o0), ((1 : Nat), SV.v a1)]) h = (
  Q Ex.norm (frS [((0 : Nat), SV.ptr b0 o0), ((1 : Nat), SV.v a1)]) h) := by kernel_rfl

theorem tr56b (p : Pr) (Q : Ex → T SV → Go.Abs.H → Prop) (h : Go.Abs.H) (b0 : Nat) (o0 : Nat) (a1 : AV) : wpW p env nocut (sub [1,0] (bodyOf Try.f56)) (keepQ [0, 1, 4] Q) (frS [((0 : Nat), SV.ptr b0 o0), ((1 : Nat), SV.v a1)]) h = (
  p.call (60 : Nat) [AV.ptr b0 o0] h fun v0 h1 => p.asB v0 fun c2 => p.cond c2 (Q Ex.ret (frS [((0 : Nat), SV.ptr b0 o0), ((1 : Nat), SV.v a1), ((4 : Nat), SV.nul AV.nils)]) h1) (Q Ex.norm (frS [((0 : Nat), SV.ptr b0 o0), ((1 : Nat), SV.v a1)]) h1)) := by kernel_rfl

theorem tr56c (p : Pr) (Q : Ex → T SV → Go.Abs.H → Prop) (h : Go.Abs.H) (b0 : Nat) (o0 : Nat) (a1 : AV) : wpW p env nocut (sub [1,1,0] (bodyOf Try.f56)) (keepQ [0, 1, 5, 6] Q) (frS [((0 : Nat), SV.ptr b0 o0), ((1 : Nat), SV.v a1)]) h = (
  Q Ex.norm (frS [((0 : Nat), SV.ptr b0 o0), ((1 : Nat), SV.v a1), ((5 : Nat), SV.nul AV.nils), ((6 : Nat), SV.nul AV.nils)]) h) := by kernel_rfl

theorem tr56d (p : Pr) (Q : Ex → T SV → Go.Abs.H → Prop) (h : Go.Abs.H) (b0 : Nat) (o0 : Nat) (a1 : AV) (a5 : AV) (a6 : AV) : wpW p env nocut (sub [1,1,1,0,0] (bodyOf Try.f56)) (keepQ [0, 1, 5, 6, 14, 15, 16] Q) (frS [((0 : Nat), SV.ptr b0 o0), ((1 : Nat), SV.v a1), ((5 : Nat), SV.v a5), ((6 : Nat), SV.v a6)]) h = (
  p.ld1 h b0 (o0 + (1 : Nat)) fun a0 => p.slen a0 fun k1 => Q Ex.norm (frS [((0 : Nat), SV.ptr b0 o0), ((1 : Nat), SV.v a1), ((5 : Nat), SV.v a5), ((6 : Nat), SV.v a6), ((14 : Nat), SV.v a0), ((15 : Nat), SV.int IntKind.i64 (↑k1 : Int)), ((16 : Nat), SV.int IntKind.i64 (0 : Int))]) h) := by kernel_rfl

theorem tr56e (p : Pr) (Q : Ex → T SV → Go.Abs.H → Prop) (h : Go.Abs.H) (b0 : Nat) (o0 : Nat) (a1 : AV) (a5 : AV) (a6 : AV) (a14 : AV) (n15 : Int) (n16 : Int) : wpW p env nocut (sub [1,1,1,0,1,0,0,0] (bodyOf Try.f56)) (keepQ [0, 1, 5, 6, 14, 15, 16, 17] Q) (frS [((0 : Nat), SV.ptr b0 o0), ((1 : Nat), SV.v a1), ((5 : Nat), SV.v a5), ((6 : Nat), SV.v a6), ((14 : Nat), SV.v a14), ((15 : Nat), SV.int IntKind.i64 n15), ((16 : Nat), SV.int IntKind.i64 n16)]) h = (
  Q Ex.norm (frS [((0 : Nat), SV.ptr b0 o0), ((1 : Nat), SV.v a1), ((5 : Nat), SV.v a5), ((6 : Nat), SV.v a6), ((14 : Nat), SV.v a14), ((15 : Nat), SV.int IntKind.i64 n15), ((16 : Nat), SV.int IntKind.i64 n16), ((17 : Nat), SV.bool (decide (n16 < n15)))]) h) := by kernel_rfl

theorem tr56f (p : Pr) (Q : Ex → T SV → Go.Abs.H → Prop) (h : Go.Abs.H) (b0 : Nat) (o0 : Nat) (a1 : AV) (a5 : AV) (a6 : AV) (a14 : AV) (n15 : Int) (n16 : Int) (c17 : Bool) : wpW p env nocut (sub [1,1,1,0,1,0,0,1,0] (bodyOf Try.f56)) (keepQ [0, 1, 5, 6, 14, 15, 16] Q) (frS [((0 : Nat), SV.ptr b0 o0), ((1 : Nat), SV.v a1), ((5 : Nat), SV.v a5), ((6 : Nat), SV.v a6), ((14 : Nat), SV.v a14), ((15 : Nat), SV.int IntKind.i64 n15), ((16 : Nat), SV.int IntKind.i64 n16), ((17 : Nat), SV.bool c17)]) h = (
  p.cond c17 (Q Ex.norm (frS [((0 : Nat), SV.ptr b0 o0), ((1 : Nat), SV.v a1), ((5 : Nat), SV.v a5), ((6 : Nat), SV.v a6), ((14 : Nat), SV.v a14), ((15 : Nat), SV.int IntKind.i64 n15), ((16 : Nat), SV.int IntKind.i64 n16)]) h) (Q (Ex.exit (0 : Nat)) (frS [((0 : Nat), SV.ptr b0 o0), ((1 : Nat), SV.v a1), ((5 : Nat), SV.v a5), ((6 : Nat), SV.v a6), ((14 : Nat), SV.v a14), ((15 : Nat), SV.int IntKind.i64 n15), ((16 : Nat), SV.int IntKind.i64 n16)]) h)) := by kernel_rfl

theorem tr56g (p : Pr) (Q : Ex → T SV → Go.Abs.H → Prop) (h : Go.Abs.H) (b0 : Nat) (o0 : Nat) (a1 : AV) (a5 : AV) (a6 : AV) (a14 : AV) (n15 : Int) (n16 : Int) : wpW p env nocut (sub [1,1,1,0,1,0,0,1,1,0,0] (bodyOf Try.f56)) (keepQ [0, 1, 5, 6, 14, 15, 16] Q) (frS [((0 : Nat), SV.ptr b0 o0), ((1 : Nat), SV.v a1), ((5 : Nat), SV.v a5), ((6 : Nat), SV.v a6), ((14 : Nat), SV.v a14), ((15 : Nat), SV.int IntKind.i64 n15), ((16 : Nat), SV.int IntKind.i64 n16)]) h = (
  p.idx (34 : Nat) a14 n16 fun b0_1 o1 => p.ldA (34 : Nat) h b0_1 o1 fun cs2 => p.new h (Blk.rows (34 : Nat) [[AV.int IntKind.i64 (0 : Int), AV.int IntKind.i64 (0 : Int), AV.int IntKind.i64 (0 : Int), AV.int IntKind.i64 (0 : Int), AV.int IntKind.i64 (0 : Int), AV.int IntKind.i64 (0 : Int), AV.int IntKind.i64 (0 : Int), AV.int IntKind.i64 (0 : Int), AV.int IntKind.i64 (0 : Int), AV.str [], AV.str [], AV.int IntKind.i64 (0 : Int), AV.int IntKind.i64 (0 : Int), AV.str [], AV.int IntKind.i64 (0 : Int), AV.int IntKind.i64 (0 : Int), AV.int IntKind.i64 (0 : Int), AV.int IntKind.i64 (0 : Int), AV.int IntKind.i64 (0 : Int), AV.int IntKind.i64 (0 : Int), AV.int IntKind.i64 (0 : Int), AV.str [], AV.str [], AV.int IntKind.i64 (0 : Int), AV.int IntKind.i64 (0 : Int), AV.nils, AV.int IntKind.i64 (0 : Int), AV.int IntKind.i64 (0 : Int), AV.int IntKind.i64 (0 : Int), AV.int IntKind.i64 (0 : Int), AV.int IntKind.i64 (0 : Int), AV.str [], AV.int IntKind.i64 (0 : Int), AV.int IntKind.i64 (0 : Int)]] false none none) fun b3 h4 => p.len (34 : Nat) cs2 (p.st h4 b3 (0 : Nat) cs2 fun h5 => p.ldA (34 : Nat) h5 b3 (0 : Nat) fun cs6 => p.callV a1 [AV.agg cs6] h5 fun v7 h8 => p.asB v7 fun c9 => p.cond c9 (p.ldA (34 : Nat) h8 b3 (0 : Nat) fun cs10 => p.len (34 : Nat) cs10 (p.new h8 (Blk.rows (34 : Nat) [cs10] false none none) fun b11 h12 => p.app (34 : Nat) (336 : Nat) h12 a5 (AV.sl b11 (0 : Nat) (1 : Nat) (1 : Nat)) fun v13 h14 => Q Ex.norm (frS [((0 : Nat), SV.ptr b0 o0), ((1 : Nat), SV.v a1), ((5 : Nat), SV.v v13), ((6 : Nat), SV.v a6), ((14 : Nat), SV.v a14), ((15 : Nat), SV.int IntKind.i64 n15), ((16 : Nat), SV.int IntKind.i64 n16)]) h14)) (p.ldA (34 : Nat) h8 b3 (0 : Nat) fun cs15 => p.len (34 : Nat) cs15 (p.new h8 (Blk.rows (34 : Nat) [cs15] false none none) fun b16 h17 => p.app (34 : Nat) (336 : Nat) h17 a6 (AV.sl b16 (0 : Nat) (1 : Nat) (1 : Nat)) fun v18 h19 => Q Ex.norm (frS [((0 : Nat), SV.ptr b0 o0), ((1 : Nat), SV.v a1), ((5 : Nat), SV.v a5), ((6 : Nat), SV.v v18), ((14 : Nat), SV.v a14), ((15 : Nat), SV.int IntKind.i64 n15), ((16 : Nat), SV.int IntKind.i64 n16)]) h19)))) := by kernel_rfl

theorem tr56h (p : Pr) (Q : Ex → T SV → Go.Abs.H → Prop) (h : Go.Abs.H) (b0 : Nat) (o0 : Nat) (a1 : AV) (a5 : AV) (a6 : AV) (a14 : AV) (n15 : Int) (n16 : Int) : wpW p env nocut (sub [1,1,1,0,1,0,0,1,1,1] (bodyOf Try.f56)) (keepQ [0, 1, 5, 6, 14, 15, 16] Q) (frS [((0 : Nat), SV.ptr b0 o0), ((1 : Nat), SV.v a1), ((5 : Nat), SV.v a5), ((6 : Nat), SV.v a6), ((14 : Nat), SV.v a14), ((15 : Nat), SV.int IntKind.i64 n15), ((16 : Nat), SV.int IntKind.i64 n16)]) h = (
  Q Ex.norm (frS [((0 : Nat), SV.ptr b0 o0), ((1 : Nat), SV.v a1), ((5 : Nat), SV.v a5), ((6 : Nat), SV.v a6), ((14 : Nat), SV.v a14), ((15 : Nat), SV.int IntKind.i64 n15), ((16 : Nat), SV.int IntKind.i64 (IntKind.i64.wrap (n16 + (1 : Int))))]) h) := by kernel_rfl

theorem tr56i (p : Pr) (Q : Ex → T SV → Go.Abs.H → Prop) (h : Go.Abs.H) (b0 : Nat) (o0 : Nat) (a5 : AV) (a6 : AV) : wpW p env nocut (sub [1,1,1,1] (bodyOf Try.f56)) (keepQ [4] Q) (frS [((0 : Nat), SV.ptr b0 o0), ((5 : Nat), SV.v a5), ((6 : Nat), SV.v a6)]) h = (
  p.one a6 (p.st h b0 (o0 + (1 : Nat)) [a6] fun h0 => Q Ex.ret (frS [((4 : Nat), SV.v a5)]) h0)) := by kernel_rfl

end Go.Proofs.Ytpfgbnmeaalpdaa
