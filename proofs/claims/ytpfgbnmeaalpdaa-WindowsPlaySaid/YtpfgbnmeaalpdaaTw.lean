/-
  What the functions come to, reckoned by the text alone.
-/
import Derived.Test.YtpfgbnmeaalpdaaAbsT3
import Derived.Test.YtpfgbnmeaalpdaaEnv
namespace Go.Proofs.Ytpfgbnmeaalpdaa
open Go Go.Abs Go.Abs.W
set_option maxRecDepth 100000
theorem ft34 : env.ft.get 34 = some Try.f34 := by kernel_rfl
theorem tr34 (p : Pr) (K : AV → Go.Abs.H → Prop) (h : Go.Abs.H) (n0 : Int) (n1 : Int) (n2 : Int) : wpW p env nocut (bodyOf Try.f34) (endQ p env Try.f34.results.toList K) (initS [SV.int IntKind.i64 n0, SV.int IntKind.i64 n1, SV.int IntKind.i64 n2] 0 .nil) h = (
  p.cond (decide (n0 < (1 : Int))) (p.nt AV.nilp (K (AV.tup [AV.nilp, AV.int IntKind.i64 (2 : Int)]) h)) (p.cond (decide ((16 : Int) < n0)) (p.nt AV.nilp (K (AV.tup [AV.nilp, AV.int IntKind.i64 (2 : Int)]) h)) (p.cond (decide (n2 < (0 : Int))) (p.nt AV.nilp (K (AV.tup [AV.nilp, AV.int IntKind.i64 (2 : Int)]) h)) (p.cond (decide (n1 < n2)) (p.nt AV.nilp (K (AV.tup [AV.nilp, AV.int IntKind.i64 (2 : Int)]) h)) (p.cond (decide ((4096 : Int) < n1)) (p.nt AV.nilp (K (AV.tup [AV.nilp, AV.int IntKind.i64 (2 : Int)]) h)) (p.len (5 : Nat) [AV.int IntKind.i64 n0, AV.int IntKind.i64 n1, AV.int IntKind.i64 n2, AV.int IntKind.i64 n1, AV.int IntKind.i64 (0 : Int)] (p.new h (Blk.rows (5 : Nat) [[AV.int IntKind.i64 n0, AV.int IntKind.i64 n1, AV.int IntKind.i64 n2, AV.int IntKind.i64 n1, AV.int IntKind.i64 (0 : Int)]] false none none) fun b0 h1 => K (AV.tup [AV.ptr b0 (0 : Nat), AV.int IntKind.i64 (0 : Int)]) h1))))))) := by kernel_rfl

theorem ft35 : env.ft.get 35 = some Try.f35 := by kernel_rfl
theorem tr35 (p : Pr) (K : AV → Go.Abs.H → Prop) (h : Go.Abs.H) (b0 : Nat) (o0 : Nat) : wpW p env nocut (bodyOf Try.f35) (endQ p env Try.f35.results.toList K) (initS [SV.ptr b0 o0] 0 .nil) h = (
  p.call (69 : Nat) [AV.ptr b0 o0] h fun v0 h1 => p.asB v0 fun c2 => p.cond c2 (K (AV.int IntKind.i64 (0 : Int)) h1) (p.ldI IntKind.i64 h1 b0 (o0 + (2 : Nat)) fun n3 => K (AV.int IntKind.i64 n3) h1)) := by kernel_rfl

theorem ft36 : env.ft.get 36 = some Try.f36 := by kernel_rfl
theorem tr36 (p : Pr) (K : AV → Go.Abs.H → Prop) (h : Go.Abs.H) (b0 : Nat) (o0 : Nat) : wpW p env nocut (bodyOf Try.f36) (endQ p env Try.f36.results.toList K) (initS [SV.ptr b0 o0] 0 .nil) h = (
  p.call (69 : Nat) [AV.ptr b0 o0] h fun v0 h1 => p.asB v0 fun c2 => p.cond c2 (K (AV.int IntKind.i64 (0 : Int)) h1) (p.ldI IntKind.i64 h1 b0 (o0 + (1 : Nat)) fun n3 => K (AV.int IntKind.i64 n3) h1)) := by kernel_rfl

theorem ft37 : env.ft.get 37 = some Try.f37 := by kernel_rfl
theorem tr37 (p : Pr) (K : AV → Go.Abs.H → Prop) (h : Go.Abs.H) (b0 : Nat) (o0 : Nat) (n1 : Int) : wpW p env nocut (bodyOf Try.f37) (endQ p env Try.f37.results.toList K) (initS [SV.ptr b0 o0, SV.int IntKind.i64 n1] 0 .nil) h = (
  p.call (69 : Nat) [AV.ptr b0 o0] h fun v0 h1 => p.asB v0 fun c2 => p.cond c2 (K (AV.bool false) h1) (p.ldI IntKind.i64 h1 b0 (o0 + (2 : Nat)) fun n3 => p.cond (decide (n1 ≤ n3)) (K (AV.bool false) h1) (p.ldI IntKind.i64 h1 b0 (o0 + (1 : Nat)) fun n4 => p.cond (decide (n4 < n1)) (K (AV.bool false) h1) (p.st h1 b0 (o0 + (2 : Nat)) [AV.int IntKind.i64 n1] fun h5 => K (AV.bool true) h5)))) := by kernel_rfl

theorem ft38 : env.ft.get 38 = some Try.f38 := by kernel_rfl
theorem tr38 (p : Pr) (K : AV → Go.Abs.H → Prop) (h : Go.Abs.H) (b0 : Nat) (o0 : Nat) (n1 : Int) : wpW p env nocut (bodyOf Try.f38) (endQ p env Try.f38.results.toList K) (initS [SV.ptr b0 o0, SV.int IntKind.i64 n1] 0 .nil) h = (
  p.call (69 : Nat) [AV.ptr b0 o0] h fun v0 h1 => p.asB v0 fun c2 => p.cond (!c2) (p.ldI IntKind.i64 h1 b0 (o0 + (4 : Nat)) fun n3 => p.st h1 b0 (o0 + (4 : Nat)) [AV.int IntKind.i64 (max n3 (min n1 (4112 : Int)))] fun h4 => K (AV.tup []) h4) (K (AV.tup []) h1)) := by kernel_rfl

theorem ft39 : env.ft.get 39 = some Try.f39 := by kernel_rfl
theorem tr39 (p : Pr) (K : AV → Go.Abs.H → Prop) (h : Go.Abs.H) (b0 : Nat) (o0 : Nat) : wpW p env nocut (bodyOf Try.f39) (endQ p env Try.f39.results.toList K) (initS [SV.ptr b0 o0] 0 .nil) h = (
  p.skip h (18 : Nat) fun b0_1 h1 => p.call (69 : Nat) [AV.ptr b0 o0] h1 fun v2 h3 => p.asB v2 fun c4 => p.cond c4 (K (AV.tup [AV.int IntKind.i64 (0 : Int), AV.bool false]) h3) (p.ldI IntKind.i64 h3 b0 (o0 + (3 : Nat)) fun n5 => p.ldI IntKind.i64 h3 b0 (o0 + (1 : Nat)) fun n6 => p.ldI IntKind.i64 h3 b0 (o0 + (4 : Nat)) fun n7 => p.cond (decide (min n6 n7 ≤ n5)) (K (AV.tup [AV.int IntKind.i64 (0 : Int), AV.bool false]) h3) (p.ldI IntKind.i64 h3 b0 (o0 + (3 : Nat)) fun n8 => p.st h3 b0 (o0 + (3 : Nat)) [AV.int IntKind.i64 (IntKind.i64.wrap (n8 + (1 : Int)))] fun h9 => p.ldI IntKind.i64 h9 b0 (o0 + (3 : Nat)) fun n10 => K (AV.tup [AV.int IntKind.i64 n10, AV.bool true]) h9))) := by kernel_rfl

theorem ft40 : env.ft.get 40 = some Try.f40 := by kernel_rfl
theorem tr40 (p : Pr) (K : AV → Go.Abs.H → Prop) (h : Go.Abs.H) (b0 : Nat) (o0 : Nat) : wpW p env nocut (bodyOf Try.f40) (endQ p env Try.f40.results.toList K) (initS [SV.ptr b0 o0] 0 .nil) h = (
  p.call (69 : Nat) [AV.ptr b0 o0] h fun v0 h1 => p.asB v0 fun c2 => p.cond c2 (K (AV.int IntKind.i64 (0 : Int)) h1) (p.ldI IntKind.i64 h1 b0 (o0 + (4 : Nat)) fun n3 => K (AV.int IntKind.i64 n3) h1)) := by kernel_rfl

theorem ft41 : env.ft.get 41 = some Try.f41 := by kernel_rfl
theorem tr41 (p : Pr) (K : AV → Go.Abs.H → Prop) (h : Go.Abs.H) (b0 : Nat) (o0 : Nat) : wpW p env nocut (bodyOf Try.f41) (endQ p env Try.f41.results.toList K) (initS [SV.ptr b0 o0] 0 .nil) h = (
  p.call (69 : Nat) [AV.ptr b0 o0] h fun v0 h1 => p.asB v0 fun c2 => p.cond c2 (K (AV.int IntKind.i64 (0 : Int)) h1) (p.ldI IntKind.i64 h1 b0 (o0 + (3 : Nat)) fun n3 => K (AV.int IntKind.i64 n3) h1)) := by kernel_rfl

theorem ft42 : env.ft.get 42 = some Try.f42 := by kernel_rfl
theorem tr42 (p : Pr) (K : AV → Go.Abs.H → Prop) (h : Go.Abs.H) (b0 : Nat) (o0 : Nat) (n1 : Int) : wpW p env nocut (bodyOf Try.f42) (endQ p env Try.f42.results.toList K) (initS [SV.ptr b0 o0, SV.int IntKind.i64 n1] 0 .nil) h = (
  p.call (69 : Nat) [AV.ptr b0 o0] h fun v0 h1 => p.asB v0 fun c2 => p.cond (!c2) (p.ldI IntKind.i64 h1 b0 (o0 + (1 : Nat)) fun n3 => p.st h1 b0 (o0 + (3 : Nat)) [AV.int IntKind.i64 (max (min n1 n3) (0 : Int))] fun h4 => K (AV.tup []) h4) (K (AV.tup []) h1)) := by kernel_rfl

theorem ft43 : env.ft.get 43 = some Try.f43 := by kernel_rfl
theorem tr43 (p : Pr) (K : AV → Go.Abs.H → Prop) (h : Go.Abs.H) (b0 : Nat) (o0 : Nat) : wpW p env nocut (bodyOf Try.f43) (endQ p env Try.f43.results.toList K) (initS [SV.ptr b0 o0] 0 .nil) h = (
  p.call (69 : Nat) [AV.ptr b0 o0] h fun v0 h1 => p.asB v0 fun c2 => p.cond (!c2) (p.ldI IntKind.i64 h1 b0 (o0 + (1 : Nat)) fun n3 => p.st h1 b0 (o0 + (3 : Nat)) [AV.int IntKind.i64 n3] fun h4 => p.st h4 b0 (o0 + (4 : Nat)) [AV.int IntKind.i64 (0 : Int)] fun h5 => K (AV.tup []) h5) (K (AV.tup []) h1)) := by kernel_rfl

theorem ft44 : env.ft.get 44 = some Try.f44 := by kernel_rfl
theorem tr44 (p : Pr) (K : AV → Go.Abs.H → Prop) (h : Go.Abs.H) (b0 : Nat) (o0 : Nat) : wpW p env nocut (bodyOf Try.f44) (endQ p env Try.f44.results.toList K) (initS [SV.ptr b0 o0] 0 .nil) h = (
  p.call (45 : Nat) [AV.ptr b0 o0] h fun v0 h1 => p.asI IntKind.i64 v0 fun n2 => p.cond (decide (n2 = (0 : Int))) (K (AV.bool false) h1) (p.ldI IntKind.i64 h1 b0 (o0 + (1 : Nat)) fun n3 => p.st h1 b0 (o0 + (1 : Nat)) [AV.int IntKind.i64 (IntKind.i64.wrap (n3 + (1 : Int)))] fun h4 => K (AV.bool true) h4)) := by kernel_rfl

theorem ft45 : env.ft.get 45 = some Try.f45 := by kernel_rfl
theorem tr45 (p : Pr) (K : AV → Go.Abs.H → Prop) (h : Go.Abs.H) (b0 : Nat) (o0 : Nat) : wpW p env nocut (bodyOf Try.f45) (endQ p env Try.f45.results.toList K) (initS [SV.ptr b0 o0] 0 .nil) h = (
  p.call (69 : Nat) [AV.ptr b0 o0] h fun v0 h1 => p.asB v0 fun c2 => p.cond c2 (K (AV.int IntKind.i64 (0 : Int)) h1) (p.skip h1 (10 : Nat) fun b3 h4 => p.call (68 : Nat) [AV.ptr b0 o0] h4 fun v5 h6 => p.asI IntKind.i64 v5 fun n7 => p.ldI IntKind.i64 h6 b0 (o0 + (1 : Nat)) fun n8 => p.re1 h4 b0 (o0 + (1 : Nat)) (AV.int IntKind.i64 n8) (K (AV.int IntKind.i64 (max (0 : Int) (IntKind.i64.wrap (min n7 (4096 : Int) - n8)))) h6))) := by kernel_rfl

theorem ft46 : env.ft.get 46 = some Try.f46 := by kernel_rfl
theorem tr46 (p : Pr) (K : AV → Go.Abs.H → Prop) (h : Go.Abs.H) (n0 : Int) (n1 : Int) (n2 : Int) : wpW p env nocut (bodyOf Try.f46) (endQ p env Try.f46.results.toList K) (initS [SV.int IntKind.i64 n0, SV.int IntKind.i64 n1, SV.int IntKind.i64 n2] 0 .nil) h = (
  p.cond (decide (n0 < (1 : Int))) (p.nt AV.nilp (K (AV.tup [AV.nilp, AV.int IntKind.i64 (2 : Int)]) h)) (p.cond (decide ((16 : Int) < n0)) (p.nt AV.nilp (K (AV.tup [AV.nilp, AV.int IntKind.i64 (2 : Int)]) h)) (p.cond (decide (n2 < (0 : Int))) (p.nt AV.nilp (K (AV.tup [AV.nilp, AV.int IntKind.i64 (2 : Int)]) h)) (p.cond (decide (n1 < n2)) (p.nt AV.nilp (K (AV.tup [AV.nilp, AV.int IntKind.i64 (2 : Int)]) h)) (p.cond (decide ((4096 : Int) < n1)) (p.nt AV.nilp (K (AV.tup [AV.nilp, AV.int IntKind.i64 (2 : Int)]) h)) (p.len (5 : Nat) [AV.int IntKind.i64 n0, AV.int IntKind.i64 n1, AV.int IntKind.i64 n2, AV.int IntKind.i64 n1, AV.int IntKind.i64 (0 : Int)] (p.new h (Blk.rows (5 : Nat) [[AV.int IntKind.i64 n0, AV.int IntKind.i64 n1, AV.int IntKind.i64 n2, AV.int IntKind.i64 n1, AV.int IntKind.i64 (0 : Int)]] false none none) fun b0 h1 => K (AV.tup [AV.ptr b0 (0 : Nat), AV.int IntKind.i64 (0 : Int)]) h1))))))) := by kernel_rfl

theorem ft47 : env.ft.get 47 = some Try.f47 := by kernel_rfl
theorem tr47 (p : Pr) (K : AV → Go.Abs.H → Prop) (h : Go.Abs.H) (b0 : Nat) (o0 : Nat) (n1 : Int) : wpW p env nocut (bodyOf Try.f47) (endQ p env Try.f47.results.toList K) (initS [SV.ptr b0 o0, SV.int IntKind.i64 n1] 0 .nil) h = (
  p.ldI IntKind.i64 h b0 (o0 + (2 : Nat)) fun n0 => p.cond (decide (n0 < n1)) (p.ldI IntKind.i64 h b0 (o0 + (1 : Nat)) fun n1_1 => p.cond (decide (n1 ≤ n1_1)) (p.st h b0 (o0 + (2 : Nat)) [AV.int IntKind.i64 n1] fun h2 => K (AV.bool (decide (n1 ≤ n1_1))) h2) (K (AV.bool (decide (n1 ≤ n1_1))) h)) (K (AV.bool false) h)) := by kernel_rfl

theorem ft48 : env.ft.get 48 = some Try.f48 := by kernel_rfl
theorem tr48 (p : Pr) (K : AV → Go.Abs.H → Prop) (h : Go.Abs.H) (b0 : Nat) (o0 : Nat) (n1 : Int) : wpW p env nocut (bodyOf Try.f48) (endQ p env Try.f48.results.toList K) (initS [SV.ptr b0 o0, SV.int IntKind.i64 n1] 0 .nil) h = (
  p.cond (decide ((4112 : Int) < n1)) (p.ldI IntKind.i64 h b0 (o0 + (4 : Nat)) fun n0 => p.cond (decide (n0 < (4112 : Int))) (p.st h b0 (o0 + (4 : Nat)) [AV.int IntKind.i64 (4112 : Int)] fun h1 => K (AV.tup []) h1) (K (AV.tup []) h)) (p.ldI IntKind.i64 h b0 (o0 + (4 : Nat)) fun n2 => p.cond (decide (n2 < n1)) (p.st h b0 (o0 + (4 : Nat)) [AV.int IntKind.i64 n1] fun h3 => K (AV.tup []) h3) (K (AV.tup []) h))) := by kernel_rfl

theorem ft49 : env.ft.get 49 = some Try.f49 := by kernel_rfl
theorem tr49 (p : Pr) (K : AV → Go.Abs.H → Prop) (h : Go.Abs.H) (b0 : Nat) (o0 : Nat) : wpW p env nocut (bodyOf Try.f49) (endQ p env Try.f49.results.toList K) (initS [SV.ptr b0 o0] 0 .nil) h = (
  p.skip h (20 : Nat) fun b0_1 h1 => p.ldI IntKind.i64 h1 b0 (o0 + (3 : Nat)) fun n2 => p.ldI IntKind.i64 h1 b0 (o0 + (1 : Nat)) fun n3 => p.cond (decide (n3 ≤ n2)) (K (AV.tup [AV.int IntKind.i64 (0 : Int), AV.bool false]) h1) (p.ldI IntKind.i64 h1 b0 (o0 + (3 : Nat)) fun n4 => p.ldI IntKind.i64 h1 b0 (o0 + (4 : Nat)) fun n5 => p.cond (decide (n5 ≤ n4)) (K (AV.tup [AV.int IntKind.i64 (0 : Int), AV.bool false]) h1) (p.ldI IntKind.i64 h1 b0 (o0 + (3 : Nat)) fun n6 => p.st h1 b0 (o0 + (3 : Nat)) [AV.int IntKind.i64 (IntKind.i64.wrap (n6 + (1 : Int)))] fun h7 => p.ldI IntKind.i64 h7 b0 (o0 + (3 : Nat)) fun n8 => K (AV.tup [AV.int IntKind.i64 n8, AV.bool true]) h7))) := by kernel_rfl

theorem ft50 : env.ft.get 50 = some Try.f50 := by kernel_rfl
theorem tr50 (p : Pr) (K : AV → Go.Abs.H → Prop) (h : Go.Abs.H) (b0 : Nat) (o0 : Nat) (n1 : Int) : wpW p env nocut (bodyOf Try.f50) (endQ p env Try.f50.results.toList K) (initS [SV.ptr b0 o0, SV.int IntKind.i64 n1] 0 .nil) h = (
  p.st h b0 (o0 + (3 : Nat)) [AV.int IntKind.i64 n1] fun h0 => p.cond (decide (n1 < (0 : Int))) (p.st h0 b0 (o0 + (3 : Nat)) [AV.int IntKind.i64 (0 : Int)] fun h1 => p.ldI IntKind.i64 h1 b0 (o0 + (1 : Nat)) fun n2 => p.cond (decide (n2 < n1)) (p.ldI IntKind.i64 h1 b0 (o0 + (1 : Nat)) fun n3 => p.st h1 b0 (o0 + (3 : Nat)) [AV.int IntKind.i64 n3] fun h4 => K (AV.tup []) h4) (K (AV.tup []) h1)) (p.ldI IntKind.i64 h0 b0 (o0 + (1 : Nat)) fun n5 => p.cond (decide (n5 < n1)) (p.ldI IntKind.i64 h0 b0 (o0 + (1 : Nat)) fun n6 => p.st h0 b0 (o0 + (3 : Nat)) [AV.int IntKind.i64 n6] fun h7 => K (AV.tup []) h7) (K (AV.tup []) h0))) := by kernel_rfl

theorem ft51 : env.ft.get 51 = some Try.f51 := by kernel_rfl
theorem tr51 (p : Pr) (K : AV → Go.Abs.H → Prop) (h : Go.Abs.H) (b0 : Nat) (o0 : Nat) : wpW p env nocut (bodyOf Try.f51) (endQ p env Try.f51.results.toList K) (initS [SV.ptr b0 o0] 0 .nil) h = (
  p.ldI IntKind.i64 h b0 (o0 + (1 : Nat)) fun n0 => p.st h b0 (o0 + (3 : Nat)) [AV.int IntKind.i64 n0] fun h1 => p.st h1 b0 (o0 + (4 : Nat)) [AV.int IntKind.i64 (0 : Int)] fun h2 => K (AV.tup []) h2) := by kernel_rfl

theorem ft52 : env.ft.get 52 = some Try.f52 := by kernel_rfl
theorem tr52 (p : Pr) (K : AV → Go.Abs.H → Prop) (h : Go.Abs.H) (b0 : Nat) (o0 : Nat) : wpW p env nocut (bodyOf Try.f52) (endQ p env Try.f52.results.toList K) (initS [SV.ptr b0 o0] 0 .nil) h = (
  p.call (69 : Nat) [AV.ptr b0 o0] h fun v0 h1 => p.asB v0 fun c2 => p.cond c2 (K AV.nilp h1) (p.ldA (5 : Nat) h1 b0 o0 fun cs3 => p.new h1 (Blk.rows (5 : Nat) [[AV.int IntKind.i64 (0 : Int), AV.int IntKind.i64 (0 : Int), AV.int IntKind.i64 (0 : Int), AV.int IntKind.i64 (0 : Int), AV.int IntKind.i64 (0 : Int)]] false none none) fun b4 h5 => p.len (5 : Nat) cs3 (p.st h5 b4 (0 : Nat) cs3 fun h6 => K (AV.ptr b4 (0 : Nat)) h6))) := by kernel_rfl

theorem ft53 : env.ft.get 53 = some Try.f53 := by kernel_rfl
theorem tr53 (p : Pr) (K : AV → Go.Abs.H → Prop) (h : Go.Abs.H) (b0 : Nat) (o0 : Nat) : wpW p env nocut (bodyOf Try.f53) (endQ p env Try.f53.results.toList K) (initS [SV.ptr b0 o0] 0 .nil) h = (
  p.call (70 : Nat) [AV.ptr b0 o0] h fun v0 h1 => p.asI IntKind.i64 v0 fun n2 => p.cond (decide ((0 : Int) < n2)) (p.ldI IntKind.i64 h1 b0 (o0 + (1 : Nat)) fun n3 => p.st h1 b0 (o0 + (1 : Nat)) [AV.int IntKind.i64 (IntKind.i64.wrap (n3 + (1 : Int)))] fun h4 => K (AV.bool (decide ((0 : Int) < n2))) h4) (K (AV.bool (decide ((0 : Int) < n2))) h1)) := by kernel_rfl

theorem ft68 : env.ft.get 68 = some Try.f68 := by kernel_rfl
theorem tr68 (p : Pr) (K : AV → Go.Abs.H → Prop) (h : Go.Abs.H) (b0 : Nat) (o0 : Nat) : wpW p env nocut (bodyOf Try.f68) (endQ p env Try.f68.results.toList K) (initS [SV.ptr b0 o0] 0 .nil) h = (
  p.call (69 : Nat) [AV.ptr b0 o0] h fun v0 h1 => p.asB v0 fun c2 => p.cond c2 (K (AV.int IntKind.i64 (0 : Int)) h1) (p.skip h1 (10 : Nat) fun b3 h4 => p.ldI IntKind.i64 h4 b0 (o0 + (2 : Nat)) fun n5 => p.ldI IntKind.i64 h4 b0 (o0 + (0 : Nat)) fun n6 => K (AV.int IntKind.i64 (IntKind.i64.wrap (n5 + n6))) h4)) := by kernel_rfl

theorem ft69 : env.ft.get 69 = some Try.f69 := by kernel_rfl
theorem tr69 (p : Pr) (K : AV → Go.Abs.H → Prop) (h : Go.Abs.H) (b0 : Nat) (o0 : Nat) : wpW p env nocut (bodyOf Try.f69) (endQ p env Try.f69.results.toList K) (initS [SV.ptr b0 o0] 0 .nil) h = (
  p.opt (binop env BinOp.eql (82 : Nat) (AV.ptr b0 o0) AV.nilp) fun a0 => p.asB a0 fun c1 => p.cond c1 (K (AV.bool true) h) (p.ldI IntKind.i64 h b0 (o0 + (0 : Nat)) fun n2 => K (AV.bool (decide (n2 = (0 : Int)))) h)) := by kernel_rfl

end Go.Proofs.Ytpfgbnmeaalpdaa
