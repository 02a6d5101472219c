/-
  The program's tables for the abstract machine, written out, and that they are the program's. No condition.
-/
import Derived.Test.YtpfgbnmeaalpdaaAbsK
import Derived.Test.YtpfgbnmeaalpdaaChecked
namespace Go.Proofs.Ytpfgbnmeaalpdaa
open Go Go.Abs
set_option maxRecDepth 100000

noncomputable def ttL : T TI :=
  (((((((T.nil.node (some (TI.mk false (1 : Nat) (8 : Nat) [AV.nilp] [] (TK.ptr (5 : Nat)))) T.nil).node
                          (some
                            (TI.mk true (3 : Nat) (40 : Nat) [AV.int IntKind.i64 (0 : Int), AV.nils, AV.int IntKind.i64 (0 : Int)] []
                              (TK.struct [((3 : Nat), (0 : Nat)), ((56 : Nat), (1 : Nat)), ((3 : Nat), (2 : Nat))])))
                          T.nil).node
                      (some (TI.mk false (1 : Nat) (8 : Nat) [AV.nilf] [] TK.fn))
                      (T.nil.node
                        (some
                          (TI.mk true (5 : Nat) (40 : Nat) [AV.int IntKind.i64 (0 : Int), AV.int IntKind.i64 (0 : Int), AV.int IntKind.i64 (0 : Int), AV.int IntKind.i64 (0 : Int), AV.int IntKind.i64 (0 : Int)]
                            [FK.i, FK.i, FK.i, FK.i, FK.i] (TK.struct [((3 : Nat), (0 : Nat)), ((3 : Nat), (1 : Nat)), ((3 : Nat), (2 : Nat)), ((3 : Nat), (3 : Nat)), ((3 : Nat), (4 : Nat))])))
                        T.nil)).node
                  (some (TI.mk false (1 : Nat) (8 : Nat) [AV.nilp] [] (TK.ptr (119 : Nat))))
                  ((T.nil.node
                        (some
                          (TI.mk true (14 : Nat) (136 : Nat)
                            [AV.int IntKind.i64 (0 : Int), AV.int IntKind.i64 (0 : Int), AV.int IntKind.i64 (0 : Int), AV.str [], AV.str [], AV.int IntKind.i64 (0 : Int), AV.int IntKind.i64 (0 : Int),
                              AV.int IntKind.i64 (0 : Int), AV.int IntKind.i64 (0 : Int), AV.int IntKind.i64 (0 : Int), AV.int IntKind.i64 (0 : Int), AV.str [], AV.int IntKind.i64 (0 : Int), AV.int IntKind.i64 (0 : Int)]
                            [FK.i, FK.i, FK.i, FK.s, FK.s, FK.i, FK.i, FK.i, FK.i, FK.i, FK.i, FK.s, FK.i, FK.i]
                            (TK.struct [((3 : Nat), (0 : Nat)), ((3 : Nat), (1 : Nat)), ((33 : Nat), (2 : Nat)), ((3 : Nat), (6 : Nat)), ((3 : Nat), (7 : Nat)), ((70 : Nat), (8 : Nat))])))
                        T.nil).node
                    (some (TI.mk false (1 : Nat) (8 : Nat) [AV.nilf] [] TK.fn)) (T.nil.node (some (TI.mk false (1 : Nat) (8 : Nat) [AV.nilp] [] (TK.ptr (79 : Nat)))) T.nil))).node
              (some
                (TI.mk true (4 : Nat) (24 : Nat) [AV.int IntKind.i64 (0 : Int), AV.int IntKind.i64 (0 : Int), AV.bool false, AV.int IntKind.u8 (0 : Int)] [FK.i, FK.i, FK.b, FK.i]
                  (TK.struct [((2 : Nat), (0 : Nat)), ((3 : Nat), (1 : Nat)), ((4 : Nat), (2 : Nat)), ((6 : Nat), (3 : Nat))])))
              (((T.nil.node
                        (some
                          (TI.mk true (13 : Nat) (128 : Nat)
                            [AV.bool false, AV.int IntKind.i64 (0 : Int), AV.int IntKind.i64 (0 : Int), AV.int IntKind.i64 (0 : Int), AV.str [], AV.str [], AV.int IntKind.i64 (0 : Int), AV.int IntKind.i64 (0 : Int),
                              AV.int IntKind.i64 (0 : Int), AV.int IntKind.i64 (0 : Int), AV.str [], AV.int IntKind.i64 (0 : Int), AV.int IntKind.i64 (0 : Int)]
                            [FK.b, FK.i, FK.i, FK.i, FK.s, FK.s, FK.i, FK.i, FK.i, FK.i, FK.s, FK.i, FK.i]
                            (TK.struct [((4 : Nat), (0 : Nat)), ((3 : Nat), (1 : Nat)), ((3 : Nat), (2 : Nat)), ((33 : Nat), (3 : Nat)), ((70 : Nat), (7 : Nat))])))
                        T.nil).node
                    (some (TI.mk true (3 : Nat) (40 : Nat) [AV.int IntKind.i64 (0 : Int), AV.nils, AV.int IntKind.i64 (0 : Int)] [] (TK.struct [((3 : Nat), (0 : Nat)), ((38 : Nat), (1 : Nat)), ((3 : Nat), (2 : Nat))])))
                    (T.nil.node (some (TI.mk false (1 : Nat) (8 : Nat) [AV.nilf] [] TK.fn)) T.nil)).node
                (some (TI.mk false (1 : Nat) (8 : Nat) [AV.nilf] [] TK.fn))
                ((T.nil.node (some (TI.mk false (1 : Nat) (8 : Nat) [AV.nilf] [] TK.fn)) T.nil).node (some (TI.mk false (1 : Nat) (8 : Nat) [AV.nilf] [] TK.fn))
                  (T.nil.node
                    (some (TI.mk true (4 : Nat) (40 : Nat) [AV.nilp, AV.nilp, AV.nilp, AV.str []] [] (TK.struct [((17 : Nat), (0 : Nat)), ((17 : Nat), (1 : Nat)), ((17 : Nat), (2 : Nat)), ((9 : Nat), (3 : Nat))])))
                    T.nil)))).node
          (some (TI.mk false (1 : Nat) (8 : Nat) [AV.int IntKind.i64 (0 : Int)] [FK.i] (TK.int IntKind.i64)))
          (((((T.nil.node
                            (some
                              (TI.mk true (11 : Nat) (48 : Nat)
                                [AV.int IntKind.u64 (0 : Int), AV.int IntKind.u64 (0 : Int), AV.int IntKind.u32 (0 : Int), AV.int IntKind.u8 (0 : Int), AV.int IntKind.u8 (0 : Int), AV.int IntKind.u8 (0 : Int),
                                  AV.int IntKind.u8 (0 : Int), AV.nilf, AV.nilp, AV.int IntKind.i32 (0 : Int), AV.int IntKind.i32 (0 : Int)]
                                []
                                (TK.struct
                                  [((12 : Nat), (0 : Nat)), ((12 : Nat), (1 : Nat)), ((123 : Nat), (2 : Nat)), ((124 : Nat), (3 : Nat)), ((5 : Nat), (4 : Nat)), ((5 : Nat), (5 : Nat)), ((125 : Nat), (6 : Nat)),
                                    ((126 : Nat), (7 : Nat)), ((127 : Nat), (8 : Nat)), ((128 : Nat), (9 : Nat)), ((129 : Nat), (10 : Nat))])))
                            T.nil).node
                        (some (TI.mk false (1 : Nat) (8 : Nat) [AV.nilp] [] (TK.ptr (110 : Nat)))) T.nil).node
                    (some
                      (TI.mk true (4 : Nat) (40 : Nat) [AV.int IntKind.i64 (0 : Int), AV.str [], AV.int IntKind.i64 (0 : Int), AV.int IntKind.i64 (0 : Int)] [FK.i, FK.s, FK.i, FK.i]
                        (TK.struct [((3 : Nat), (0 : Nat)), ((9 : Nat), (1 : Nat)), ((3 : Nat), (2 : Nat)), ((3 : Nat), (3 : Nat))])))
                    (T.nil.node (some (TI.mk false (1 : Nat) (8 : Nat) [AV.nilf] [] TK.fn)) T.nil)).node
                (some (TI.mk true (1 : Nat) (8 : Nat) [AV.nilp] [] (TK.struct [((17 : Nat), (0 : Nat))])))
                (T.nil.node (some (TI.mk false (1 : Nat) (8 : Nat) [AV.nilf] [] TK.fn))
                  (T.nil.node
                    (some
                      (TI.mk true (5 : Nat) (40 : Nat) [AV.int IntKind.i64 (0 : Int), AV.int IntKind.i64 (0 : Int), AV.int IntKind.i64 (0 : Int), AV.int IntKind.i64 (0 : Int), AV.int IntKind.i64 (0 : Int)]
                        [FK.i, FK.i, FK.i, FK.i, FK.i] (TK.struct [((3 : Nat), (0 : Nat)), ((3 : Nat), (1 : Nat)), ((3 : Nat), (2 : Nat)), ((3 : Nat), (3 : Nat)), ((3 : Nat), (4 : Nat))])))
                    T.nil))).node
            (some (TI.mk false (1 : Nat) (16 : Nat) [AV.str []] [FK.s] TK.str))
            (((T.nil.node (some (TI.mk false (1 : Nat) (24 : Nat) [AV.nils] [] (TK.slice (79 : Nat)))) T.nil).node
                  (some
                    (TI.mk true (35 : Nat) (344 : Nat)
                      [AV.int IntKind.u8 (0 : Int), AV.int IntKind.i64 (0 : Int), AV.int IntKind.i64 (0 : Int), AV.int IntKind.i64 (0 : Int), AV.int IntKind.i64 (0 : Int), AV.int IntKind.i64 (0 : Int),
                        AV.int IntKind.i64 (0 : Int), AV.int IntKind.i64 (0 : Int), AV.int IntKind.i64 (0 : Int), AV.str [], AV.str [], AV.int IntKind.i64 (0 : Int), AV.int IntKind.i64 (0 : Int), AV.str [],
                        AV.int IntKind.i64 (0 : Int), AV.int IntKind.i64 (0 : Int), AV.int IntKind.i64 (0 : Int), AV.int IntKind.i64 (0 : Int), AV.int IntKind.i64 (0 : Int), AV.int IntKind.i64 (0 : Int),
                        AV.int IntKind.i64 (0 : Int), AV.str [], AV.str [], AV.int IntKind.i64 (0 : Int), AV.int IntKind.i64 (0 : Int), AV.nils, AV.int IntKind.i64 (0 : Int), AV.int IntKind.i64 (0 : Int),
                        AV.int IntKind.i64 (0 : Int), AV.int IntKind.i64 (0 : Int), AV.int IntKind.i64 (0 : Int), AV.str [], AV.int IntKind.i64 (0 : Int), AV.int IntKind.i64 (0 : Int), AV.int IntKind.i64 (0 : Int)]
                      [] (TK.struct [((5 : Nat), (0 : Nat)), ((42 : Nat), (1 : Nat)), ((35 : Nat), (30 : Nat)), ((3 : Nat), (34 : Nat))])))
                  (T.nil.node (some (TI.mk false (1 : Nat) (8 : Nat) [AV.nilf] [] TK.fn)) T.nil)).node
              none
              ((T.nil.node (some (TI.mk false (1 : Nat) (8 : Nat) [AV.nilp] [] (TK.ptr (95 : Nat)))) T.nil).node (some (TI.mk false (1 : Nat) (8 : Nat) [AV.nilf] [] TK.fn))
                (T.nil.node (some (TI.mk false (1 : Nat) (4 : Nat) [AV.int IntKind.u32 (0 : Int)] [FK.i] (TK.int IntKind.u32))) T.nil))))).node
      (some (TI.mk false (1 : Nat) (8 : Nat) [AV.nilf] [] TK.fn))
      ((((((T.nil.node (some (TI.mk false (1 : Nat) (4 : Nat) [AV.int IntKind.i32 (0 : Int)] [FK.i] (TK.int IntKind.i32))) T.nil).node (some (TI.mk false (1 : Nat) (24 : Nat) [AV.nils] [] (TK.slice (72 : Nat))))
                        T.nil).node
                    (some
                      (TI.mk true (4 : Nat) (48 : Nat) [AV.int IntKind.i64 (0 : Int), AV.str [], AV.str [], AV.int IntKind.i64 (0 : Int)] [FK.i, FK.s, FK.s, FK.i]
                        (TK.struct [((3 : Nat), (0 : Nat)), ((9 : Nat), (1 : Nat)), ((9 : Nat), (2 : Nat)), ((3 : Nat), (3 : Nat))])))
                    (T.nil.node (some (TI.mk false (1 : Nat) (8 : Nat) [AV.nilf] [] TK.fn)) T.nil)).node
                (some (TI.mk false (1 : Nat) (8 : Nat) [AV.nilp] [] (TK.ptr (131 : Nat))))
                ((T.nil.node (some (TI.mk false (1 : Nat) (24 : Nat) [AV.nils] [] (TK.slice (86 : Nat)))) T.nil).node
                  (some
                    (TI.mk true (34 : Nat) (336 : Nat)
                      [AV.int IntKind.i64 (0 : Int), AV.int IntKind.i64 (0 : Int), AV.int IntKind.i64 (0 : Int), AV.int IntKind.i64 (0 : Int), AV.int IntKind.i64 (0 : Int), AV.int IntKind.i64 (0 : Int),
                        AV.int IntKind.i64 (0 : Int), AV.int IntKind.i64 (0 : Int), AV.int IntKind.i64 (0 : Int), AV.str [], AV.str [], AV.int IntKind.i64 (0 : Int), AV.int IntKind.i64 (0 : Int), AV.str [],
                        AV.int IntKind.i64 (0 : Int), AV.int IntKind.i64 (0 : Int), AV.int IntKind.i64 (0 : Int), AV.int IntKind.i64 (0 : Int), AV.int IntKind.i64 (0 : Int), AV.int IntKind.i64 (0 : Int),
                        AV.int IntKind.i64 (0 : Int), AV.str [], AV.str [], AV.int IntKind.i64 (0 : Int), AV.int IntKind.i64 (0 : Int), AV.nils, AV.int IntKind.i64 (0 : Int), AV.int IntKind.i64 (0 : Int),
                        AV.int IntKind.i64 (0 : Int), AV.int IntKind.i64 (0 : Int), AV.int IntKind.i64 (0 : Int), AV.str [], AV.int IntKind.i64 (0 : Int), AV.int IntKind.i64 (0 : Int)]
                      [] (TK.struct [((3 : Nat), (0 : Nat)), ((42 : Nat), (1 : Nat)), ((35 : Nat), (30 : Nat))])))
                  (T.nil.node (some (TI.mk false (1 : Nat) (8 : Nat) [AV.nilf] [] TK.fn)) T.nil))).node
            (some (TI.mk false (1 : Nat) (16 : Nat) [AV.str []] [FK.s] TK.str))
            (((T.nil.node (some (TI.mk false (1 : Nat) (8 : Nat) [AV.nilf] [] TK.fn)) T.nil).node
                  (some
                    (TI.mk true (29 : Nat) (288 : Nat)
                      [AV.int IntKind.i64 (0 : Int), AV.int IntKind.i64 (0 : Int), AV.int IntKind.i64 (0 : Int), AV.int IntKind.i64 (0 : Int), AV.int IntKind.i64 (0 : Int), AV.int IntKind.i64 (0 : Int),
                        AV.int IntKind.i64 (0 : Int), AV.int IntKind.i64 (0 : Int), AV.str [], AV.str [], AV.int IntKind.i64 (0 : Int), AV.int IntKind.i64 (0 : Int), AV.str [], AV.int IntKind.i64 (0 : Int),
                        AV.int IntKind.i64 (0 : Int), AV.int IntKind.i64 (0 : Int), AV.int IntKind.i64 (0 : Int), AV.int IntKind.i64 (0 : Int), AV.int IntKind.i64 (0 : Int), AV.int IntKind.i64 (0 : Int), AV.str [],
                        AV.str [], AV.int IntKind.i64 (0 : Int), AV.int IntKind.i64 (0 : Int), AV.nils, AV.int IntKind.i64 (0 : Int), AV.int IntKind.i64 (0 : Int), AV.int IntKind.i64 (0 : Int),
                        AV.int IntKind.i64 (0 : Int)]
                      []
                      (TK.struct
                        [((3 : Nat), (0 : Nat)), ((3 : Nat), (1 : Nat)), ((3 : Nat), (2 : Nat)), ((3 : Nat), (3 : Nat)), ((3 : Nat), (4 : Nat)), ((3 : Nat), (5 : Nat)), ((3 : Nat), (6 : Nat)), ((33 : Nat), (7 : Nat)),
                          ((35 : Nat), (11 : Nat)), ((3 : Nat), (15 : Nat)), ((37 : Nat), (16 : Nat)), ((40 : Nat), (23 : Nat)), ((3 : Nat), (26 : Nat)), ((3 : Nat), (27 : Nat)), ((3 : Nat), (28 : Nat))])))
                  (T.nil.node (some (TI.mk false (1 : Nat) (8 : Nat) [AV.nilf] [] TK.fn)) T.nil)).node
              (some (TI.mk false (1 : Nat) (8 : Nat) [AV.nilp] [] (TK.ptr (101 : Nat))))
              ((T.nil.node (some (TI.mk false (1 : Nat) (8 : Nat) [AV.nilf] [] TK.fn)) T.nil).node (some (TI.mk false (1 : Nat) (8 : Nat) [AV.nilf] [] TK.fn))
                (T.nil.node (some (TI.mk true (0 : Nat) (0 : Nat) [] [] (TK.struct [((120 : Nat), (0 : Nat))]))) T.nil)))).node
        (some (TI.mk false (1 : Nat) (1 : Nat) [AV.int IntKind.u8 (0 : Int)] [FK.i] (TK.int IntKind.u8)))
        (((((T.nil.node (some (TI.mk true (2 : Nat) (16 : Nat) [AV.int IntKind.i64 (0 : Int), AV.int IntKind.i64 (0 : Int)] [FK.i, FK.i] (TK.struct [((3 : Nat), (0 : Nat)), ((3 : Nat), (1 : Nat))]))) T.nil).node
                      (some
                        (TI.mk true (6 : Nat) (56 : Nat) [AV.int IntKind.i64 (0 : Int), AV.int IntKind.i64 (0 : Int), AV.int IntKind.i64 (0 : Int), AV.str [], AV.int IntKind.i64 (0 : Int), AV.int IntKind.i64 (0 : Int)]
                          [FK.i, FK.i, FK.i, FK.s, FK.i, FK.i] (TK.struct [((3 : Nat), (0 : Nat)), ((3 : Nat), (1 : Nat)), ((35 : Nat), (2 : Nat))])))
                      T.nil).node
                  (some
                    (TI.mk true (7 : Nat) (72 : Nat)
                      [AV.int IntKind.i64 (0 : Int), AV.int IntKind.i64 (0 : Int), AV.int IntKind.i64 (0 : Int), AV.int IntKind.i64 (0 : Int), AV.str [], AV.str [], AV.int IntKind.i64 (0 : Int)]
                      [FK.i, FK.i, FK.i, FK.i, FK.s, FK.s, FK.i] (TK.struct [((3 : Nat), (0 : Nat)), ((3 : Nat), (1 : Nat)), ((3 : Nat), (2 : Nat)), ((33 : Nat), (3 : Nat))])))
                  (T.nil.node
                    (some (TI.mk true (3 : Nat) (40 : Nat) [AV.int IntKind.i64 (0 : Int), AV.nils, AV.int IntKind.i64 (0 : Int)] [] (TK.struct [((3 : Nat), (0 : Nat)), ((30 : Nat), (1 : Nat)), ((3 : Nat), (2 : Nat))])))
                    T.nil)).node
              (some (TI.mk false (1 : Nat) (4 : Nat) [AV.int IntKind.i32 (0 : Int)] [FK.i] (TK.int IntKind.i32)))
              ((T.nil.node (some (TI.mk true (2 : Nat) (16 : Nat) [AV.int IntKind.u8 (0 : Int), AV.int IntKind.i64 (0 : Int)] [FK.i, FK.i] (TK.struct [((5 : Nat), (0 : Nat)), ((3 : Nat), (1 : Nat))]))) T.nil).node none
                (T.nil.node (some (TI.mk false (1 : Nat) (8 : Nat) [AV.nilf] [] TK.fn)) T.nil))).node
          (some (TI.mk true (2 : Nat) (24 : Nat) [AV.str [], AV.int IntKind.u64 (0 : Int)] [] (TK.struct [((9 : Nat), (0 : Nat)), ((12 : Nat), (1 : Nat))])))
          (((T.nil.node (some (TI.mk false (1 : Nat) (24 : Nat) [AV.nils] [] (TK.slice (3 : Nat)))) T.nil).node (some (TI.mk false (1 : Nat) (8 : Nat) [AV.nilf] [] TK.fn))
                (T.nil.node
                  (some
                    (TI.mk true (9 : Nat) (88 : Nat)
                      [AV.bool false, AV.nils, AV.int IntKind.i64 (0 : Int), AV.int IntKind.i64 (0 : Int), AV.int IntKind.i64 (0 : Int), AV.int IntKind.i64 (0 : Int), AV.int IntKind.i64 (0 : Int),
                        AV.int IntKind.i64 (0 : Int), AV.int IntKind.i64 (0 : Int)]
                      [] (TK.struct [((4 : Nat), (0 : Nat)), ((75 : Nat), (1 : Nat)), ((3 : Nat), (2 : Nat)), ((108 : Nat), (3 : Nat))])))
                  T.nil)).node
            (some (TI.mk false (1 : Nat) (24 : Nat) [AV.nils] [] (TK.slice (4 : Nat))))
            ((T.nil.node (some (TI.mk false (1 : Nat) (8 : Nat) [AV.nilf] [] TK.fn)) T.nil).node (some (TI.mk false (1 : Nat) (8 : Nat) [AV.nilf] [] TK.fn))
              (T.nil.node (some (TI.mk false (1 : Nat) (1 : Nat) [AV.int IntKind.u8 (0 : Int)] [FK.i] (TK.int IntKind.u8))) T.nil)))))).node
  none
  (((((((T.nil.node (some (TI.mk false (1 : Nat) (4 : Nat) [AV.int IntKind.i32 (0 : Int)] [FK.i] (TK.int IntKind.i32))) T.nil).node (some (TI.mk false (1 : Nat) (8 : Nat) [AV.nilf] [] TK.fn)) T.nil).node
                    (some
                      (TI.mk true (4 : Nat) (48 : Nat) [AV.int IntKind.i64 (0 : Int), AV.str [], AV.str [], AV.int IntKind.i64 (0 : Int)] [FK.i, FK.s, FK.s, FK.i]
                        (TK.struct [((3 : Nat), (0 : Nat)), ((9 : Nat), (1 : Nat)), ((9 : Nat), (2 : Nat)), ((3 : Nat), (3 : Nat))])))
                    (T.nil.node (some (TI.mk false (1 : Nat) (8 : Nat) [AV.nilf] [] TK.fn)) T.nil)).node
                (some (TI.mk false (1 : Nat) (8 : Nat) [AV.nilp] [] (TK.ptr (122 : Nat))))
                ((T.nil.node (some (TI.mk false (1 : Nat) (8 : Nat) [AV.nilf] [] TK.fn)) T.nil).node
                  (some
                    (TI.mk true (34 : Nat) (336 : Nat)
                      [AV.int IntKind.i64 (0 : Int), AV.int IntKind.i64 (0 : Int), AV.int IntKind.i64 (0 : Int), AV.int IntKind.i64 (0 : Int), AV.int IntKind.i64 (0 : Int), AV.int IntKind.i64 (0 : Int),
                        AV.int IntKind.i64 (0 : Int), AV.int IntKind.i64 (0 : Int), AV.int IntKind.i64 (0 : Int), AV.str [], AV.str [], AV.int IntKind.i64 (0 : Int), AV.int IntKind.i64 (0 : Int), AV.str [],
                        AV.int IntKind.i64 (0 : Int), AV.int IntKind.i64 (0 : Int), AV.int IntKind.i64 (0 : Int), AV.int IntKind.i64 (0 : Int), AV.int IntKind.i64 (0 : Int), AV.int IntKind.i64 (0 : Int),
                        AV.int IntKind.i64 (0 : Int), AV.str [], AV.str [], AV.int IntKind.i64 (0 : Int), AV.int IntKind.i64 (0 : Int), AV.nils, AV.int IntKind.i64 (0 : Int), AV.int IntKind.i64 (0 : Int),
                        AV.int IntKind.i64 (0 : Int), AV.int IntKind.i64 (0 : Int), AV.int IntKind.i64 (0 : Int), AV.str [], AV.int IntKind.i64 (0 : Int), AV.int IntKind.i64 (0 : Int)]
                      [] (TK.struct [((3 : Nat), (0 : Nat)), ((42 : Nat), (1 : Nat)), ((35 : Nat), (30 : Nat))])))
                  (T.nil.node (some (TI.mk false (1 : Nat) (8 : Nat) [AV.nilf] [] TK.fn)) T.nil))).node
            (some
              (TI.mk true (4 : Nat) (24 : Nat) [AV.int IntKind.i64 (0 : Int), AV.int IntKind.i64 (0 : Int), AV.bool false, AV.int IntKind.u8 (0 : Int)] [FK.i, FK.i, FK.b, FK.i]
                (TK.struct [((2 : Nat), (0 : Nat)), ((3 : Nat), (1 : Nat)), ((4 : Nat), (2 : Nat)), ((6 : Nat), (3 : Nat))])))
            (((T.nil.node
                      (some
                        (TI.mk true (13 : Nat) (128 : Nat)
                          [AV.bool false, AV.int IntKind.i64 (0 : Int), AV.int IntKind.i64 (0 : Int), AV.int IntKind.i64 (0 : Int), AV.str [], AV.str [], AV.int IntKind.i64 (0 : Int), AV.int IntKind.i64 (0 : Int),
                            AV.int IntKind.i64 (0 : Int), AV.int IntKind.i64 (0 : Int), AV.str [], AV.int IntKind.i64 (0 : Int), AV.int IntKind.i64 (0 : Int)]
                          [FK.b, FK.i, FK.i, FK.i, FK.s, FK.s, FK.i, FK.i, FK.i, FK.i, FK.s, FK.i, FK.i]
                          (TK.struct [((4 : Nat), (0 : Nat)), ((3 : Nat), (1 : Nat)), ((3 : Nat), (2 : Nat)), ((33 : Nat), (3 : Nat)), ((70 : Nat), (7 : Nat))])))
                      T.nil).node
                  (some (TI.mk true (3 : Nat) (40 : Nat) [AV.int IntKind.i64 (0 : Int), AV.nils, AV.int IntKind.i64 (0 : Int)] [] (TK.struct [((3 : Nat), (0 : Nat)), ((38 : Nat), (1 : Nat)), ((3 : Nat), (2 : Nat))])))
                  (T.nil.node
                    (some
                      (TI.mk true (34 : Nat) (336 : Nat)
                        [AV.int IntKind.i64 (0 : Int), AV.int IntKind.i64 (0 : Int), AV.int IntKind.i64 (0 : Int), AV.int IntKind.i64 (0 : Int), AV.int IntKind.i64 (0 : Int), AV.int IntKind.i64 (0 : Int),
                          AV.int IntKind.i64 (0 : Int), AV.int IntKind.i64 (0 : Int), AV.int IntKind.i64 (0 : Int), AV.str [], AV.str [], AV.int IntKind.i64 (0 : Int), AV.int IntKind.i64 (0 : Int), AV.str [],
                          AV.int IntKind.i64 (0 : Int), AV.int IntKind.i64 (0 : Int), AV.int IntKind.i64 (0 : Int), AV.int IntKind.i64 (0 : Int), AV.int IntKind.i64 (0 : Int), AV.int IntKind.i64 (0 : Int),
                          AV.int IntKind.i64 (0 : Int), AV.str [], AV.str [], AV.int IntKind.i64 (0 : Int), AV.int IntKind.i64 (0 : Int), AV.nils, AV.int IntKind.i64 (0 : Int), AV.int IntKind.i64 (0 : Int),
                          AV.int IntKind.i64 (0 : Int), AV.int IntKind.i64 (0 : Int), AV.int IntKind.i64 (0 : Int), AV.str [], AV.int IntKind.i64 (0 : Int), AV.int IntKind.i64 (0 : Int)]
                        [] (TK.struct [((3 : Nat), (0 : Nat)), ((42 : Nat), (1 : Nat)), ((35 : Nat), (30 : Nat))])))
                    T.nil)).node
              (some (TI.mk false (1 : Nat) (8 : Nat) [AV.nilf] [] TK.fn))
              ((T.nil.node (some (TI.mk false (1 : Nat) (8 : Nat) [AV.nilf] [] TK.fn)) T.nil).node (some (TI.mk false (1 : Nat) (24 : Nat) [AV.nils] [] (TK.slice (104 : Nat))))
                (T.nil.node (some (TI.mk true (0 : Nat) (0 : Nat) [] [] (TK.arr (0 : Nat) (16 : Nat)))) T.nil)))).node
        (some (TI.mk false (1 : Nat) (1 : Nat) [AV.bool false] [FK.b] TK.bool))
        (((((T.nil.node (some (TI.mk true (2 : Nat) (16 : Nat) [AV.int IntKind.i64 (0 : Int), AV.int IntKind.i64 (0 : Int)] [FK.i, FK.i] (TK.struct [((3 : Nat), (0 : Nat)), ((3 : Nat), (1 : Nat))]))) T.nil).node
                      (some (TI.mk false (1 : Nat) (8 : Nat) [AV.nilf] [] TK.fn)) T.nil).node
                  (some
                    (TI.mk true (7 : Nat) (72 : Nat)
                      [AV.int IntKind.i64 (0 : Int), AV.int IntKind.i64 (0 : Int), AV.int IntKind.i64 (0 : Int), AV.int IntKind.i64 (0 : Int), AV.str [], AV.str [], AV.int IntKind.i64 (0 : Int)]
                      [FK.i, FK.i, FK.i, FK.i, FK.s, FK.s, FK.i] (TK.struct [((3 : Nat), (0 : Nat)), ((3 : Nat), (1 : Nat)), ((3 : Nat), (2 : Nat)), ((33 : Nat), (3 : Nat))])))
                  (T.nil.node
                    (some (TI.mk true (3 : Nat) (40 : Nat) [AV.int IntKind.i64 (0 : Int), AV.nils, AV.int IntKind.i64 (0 : Int)] [] (TK.struct [((3 : Nat), (0 : Nat)), ((30 : Nat), (1 : Nat)), ((3 : Nat), (2 : Nat))])))
                    T.nil)).node
              (some (TI.mk false (1 : Nat) (16 : Nat) [AV.nili] [] TK.other))
              ((T.nil.node (some (TI.mk false (1 : Nat) (8 : Nat) [AV.nilf] [] TK.fn)) T.nil).node (some (TI.mk false (1 : Nat) (8 : Nat) [AV.nilp] [] (TK.ptr (63 : Nat))))
                (T.nil.node
                  (some
                    (TI.mk true (5 : Nat) (40 : Nat) [AV.int IntKind.i64 (0 : Int), AV.int IntKind.i64 (0 : Int), AV.int IntKind.i64 (0 : Int), AV.int IntKind.i64 (0 : Int), AV.int IntKind.i64 (0 : Int)]
                      [FK.i, FK.i, FK.i, FK.i, FK.i] (TK.struct [((3 : Nat), (0 : Nat)), ((3 : Nat), (1 : Nat)), ((3 : Nat), (2 : Nat)), ((3 : Nat), (3 : Nat)), ((3 : Nat), (4 : Nat))])))
                  T.nil))).node
          (some (TI.mk false (1 : Nat) (8 : Nat) [AV.int IntKind.u64 (0 : Int)] [FK.i] (TK.int IntKind.u64)))
          (((T.nil.node (some (TI.mk false (1 : Nat) (8 : Nat) [AV.nilf] [] TK.fn)) T.nil).node
                (some
                  (TI.mk true (35 : Nat) (344 : Nat)
                    [AV.int IntKind.u8 (0 : Int), AV.int IntKind.i64 (0 : Int), AV.int IntKind.i64 (0 : Int), AV.int IntKind.i64 (0 : Int), AV.int IntKind.i64 (0 : Int), AV.int IntKind.i64 (0 : Int),
                      AV.int IntKind.i64 (0 : Int), AV.int IntKind.i64 (0 : Int), AV.int IntKind.i64 (0 : Int), AV.str [], AV.str [], AV.int IntKind.i64 (0 : Int), AV.int IntKind.i64 (0 : Int), AV.str [],
                      AV.int IntKind.i64 (0 : Int), AV.int IntKind.i64 (0 : Int), AV.int IntKind.i64 (0 : Int), AV.int IntKind.i64 (0 : Int), AV.int IntKind.i64 (0 : Int), AV.int IntKind.i64 (0 : Int),
                      AV.int IntKind.i64 (0 : Int), AV.str [], AV.str [], AV.int IntKind.i64 (0 : Int), AV.int IntKind.i64 (0 : Int), AV.nils, AV.int IntKind.i64 (0 : Int), AV.int IntKind.i64 (0 : Int),
                      AV.int IntKind.i64 (0 : Int), AV.int IntKind.i64 (0 : Int), AV.int IntKind.i64 (0 : Int), AV.str [], AV.int IntKind.i64 (0 : Int), AV.int IntKind.i64 (0 : Int), AV.int IntKind.i64 (0 : Int)]
                    [] (TK.struct [((5 : Nat), (0 : Nat)), ((42 : Nat), (1 : Nat)), ((35 : Nat), (30 : Nat)), ((3 : Nat), (34 : Nat))])))
                (T.nil.node
                  (some
                    (TI.mk true (6 : Nat) (48 : Nat)
                      [AV.int IntKind.i64 (0 : Int), AV.int IntKind.i64 (0 : Int), AV.int IntKind.i64 (0 : Int), AV.int IntKind.i64 (0 : Int), AV.int IntKind.i64 (0 : Int), AV.int IntKind.i64 (0 : Int)] []
                      (TK.arr (6 : Nat) (3 : Nat))))
                  T.nil)).node
            (some (TI.mk false (1 : Nat) (8 : Nat) [AV.nilf] [] TK.fn)) (T.nil.node none (T.nil.node (some (TI.mk false (1 : Nat) (1 : Nat) [AV.int IntKind.u8 (0 : Int)] [FK.i] (TK.int IntKind.u8))) T.nil))))).node
    (some (TI.mk false (1 : Nat) (8 : Nat) [AV.int IntKind.i64 (0 : Int)] [FK.i] (TK.int IntKind.i64)))
    ((((((T.nil.node
                          (some
                            (TI.mk true (11 : Nat) (48 : Nat)
                              [AV.int IntKind.u64 (0 : Int), AV.int IntKind.u64 (0 : Int), AV.int IntKind.u32 (0 : Int), AV.int IntKind.u8 (0 : Int), AV.int IntKind.u8 (0 : Int), AV.int IntKind.u8 (0 : Int),
                                AV.int IntKind.u8 (0 : Int), AV.nilf, AV.nilp, AV.int IntKind.i32 (0 : Int), AV.int IntKind.i32 (0 : Int)]
                              []
                              (TK.struct
                                [((12 : Nat), (0 : Nat)), ((12 : Nat), (1 : Nat)), ((123 : Nat), (2 : Nat)), ((124 : Nat), (3 : Nat)), ((5 : Nat), (4 : Nat)), ((5 : Nat), (5 : Nat)), ((125 : Nat), (6 : Nat)),
                                  ((126 : Nat), (7 : Nat)), ((127 : Nat), (8 : Nat)), ((128 : Nat), (9 : Nat)), ((129 : Nat), (10 : Nat))])))
                          T.nil).node
                      (some (TI.mk false (1 : Nat) (8 : Nat) [AV.nilf] [] TK.fn)) T.nil).node
                  (some
                    (TI.mk true (4 : Nat) (40 : Nat) [AV.int IntKind.i64 (0 : Int), AV.str [], AV.int IntKind.i64 (0 : Int), AV.int IntKind.i64 (0 : Int)] [FK.i, FK.s, FK.i, FK.i]
                      (TK.struct [((3 : Nat), (0 : Nat)), ((9 : Nat), (1 : Nat)), ((3 : Nat), (2 : Nat)), ((3 : Nat), (3 : Nat))])))
                  (T.nil.node (some (TI.mk false (1 : Nat) (8 : Nat) [AV.nilf] [] TK.fn)) T.nil)).node
              (some (TI.mk true (1 : Nat) (8 : Nat) [AV.nilp] [] (TK.struct [((17 : Nat), (0 : Nat))])))
              ((T.nil.node (some (TI.mk false (1 : Nat) (8 : Nat) [AV.nilp] [] (TK.ptr (116 : Nat)))) T.nil).node (some (TI.mk false (1 : Nat) (8 : Nat) [AV.nilf] [] TK.fn))
                (T.nil.node (some (TI.mk false (1 : Nat) (8 : Nat) [AV.nilf] [] TK.fn)) T.nil))).node
          (some (TI.mk false (1 : Nat) (16 : Nat) [AV.str []] [FK.s] TK.str))
          (((T.nil.node (some (TI.mk false (1 : Nat) (8 : Nat) [AV.nilf] [] TK.fn)) T.nil).node
                (some
                  (TI.mk true (29 : Nat) (288 : Nat)
                    [AV.int IntKind.i64 (0 : Int), AV.int IntKind.i64 (0 : Int), AV.int IntKind.i64 (0 : Int), AV.int IntKind.i64 (0 : Int), AV.int IntKind.i64 (0 : Int), AV.int IntKind.i64 (0 : Int),
                      AV.int IntKind.i64 (0 : Int), AV.int IntKind.i64 (0 : Int), AV.str [], AV.str [], AV.int IntKind.i64 (0 : Int), AV.int IntKind.i64 (0 : Int), AV.str [], AV.int IntKind.i64 (0 : Int),
                      AV.int IntKind.i64 (0 : Int), AV.int IntKind.i64 (0 : Int), AV.int IntKind.i64 (0 : Int), AV.int IntKind.i64 (0 : Int), AV.int IntKind.i64 (0 : Int), AV.int IntKind.i64 (0 : Int), AV.str [],
                      AV.str [], AV.int IntKind.i64 (0 : Int), AV.int IntKind.i64 (0 : Int), AV.nils, AV.int IntKind.i64 (0 : Int), AV.int IntKind.i64 (0 : Int), AV.int IntKind.i64 (0 : Int),
                      AV.int IntKind.i64 (0 : Int)]
                    []
                    (TK.struct
                      [((3 : Nat), (0 : Nat)), ((3 : Nat), (1 : Nat)), ((3 : Nat), (2 : Nat)), ((3 : Nat), (3 : Nat)), ((3 : Nat), (4 : Nat)), ((3 : Nat), (5 : Nat)), ((3 : Nat), (6 : Nat)), ((33 : Nat), (7 : Nat)),
                        ((35 : Nat), (11 : Nat)), ((3 : Nat), (15 : Nat)), ((37 : Nat), (16 : Nat)), ((40 : Nat), (23 : Nat)), ((3 : Nat), (26 : Nat)), ((3 : Nat), (27 : Nat)), ((3 : Nat), (28 : Nat))])))
                (T.nil.node (some (TI.mk false (1 : Nat) (24 : Nat) [AV.nils] [] (TK.slice (42 : Nat)))) T.nil)).node
            (some (TI.mk false (1 : Nat) (8 : Nat) [AV.int IntKind.i64 (0 : Int)] [FK.i] (TK.int IntKind.i64)))
            ((T.nil.node (some (TI.mk true (2 : Nat) (16 : Nat) [AV.int IntKind.i64 (0 : Int), AV.int IntKind.i64 (0 : Int)] [] (TK.arr (2 : Nat) (3 : Nat)))) T.nil).node
              (some (TI.mk false (1 : Nat) (8 : Nat) [AV.nilf] [] TK.fn)) (T.nil.node (some (TI.mk true (0 : Nat) (0 : Nat) [] [] (TK.struct [((120 : Nat), (0 : Nat))]))) T.nil)))).node
      (some (TI.mk false (1 : Nat) (1 : Nat) [AV.int IntKind.u8 (0 : Int)] [FK.i] (TK.int IntKind.u8)))
      (((((T.nil.node (some (TI.mk false (1 : Nat) (8 : Nat) [AV.nilp] [] TK.other)) T.nil).node
                    (some
                      (TI.mk true (6 : Nat) (56 : Nat) [AV.int IntKind.i64 (0 : Int), AV.int IntKind.i64 (0 : Int), AV.int IntKind.i64 (0 : Int), AV.str [], AV.int IntKind.i64 (0 : Int), AV.int IntKind.i64 (0 : Int)]
                        [FK.i, FK.i, FK.i, FK.s, FK.i, FK.i] (TK.struct [((3 : Nat), (0 : Nat)), ((3 : Nat), (1 : Nat)), ((35 : Nat), (2 : Nat))])))
                    T.nil).node
                (some (TI.mk false (1 : Nat) (24 : Nat) [AV.nils] [] (TK.slice (133 : Nat)))) (T.nil.node (some (TI.mk false (1 : Nat) (8 : Nat) [AV.nilf] [] TK.fn)) T.nil)).node
            (some (TI.mk false (1 : Nat) (24 : Nat) [AV.nils] [] (TK.slice (44 : Nat))))
            ((T.nil.node (some (TI.mk true (2 : Nat) (16 : Nat) [AV.int IntKind.u8 (0 : Int), AV.int IntKind.i64 (0 : Int)] [FK.i, FK.i] (TK.struct [((5 : Nat), (0 : Nat)), ((3 : Nat), (1 : Nat))]))) T.nil).node
              (some (TI.mk false (1 : Nat) (8 : Nat) [AV.nilf] [] TK.fn))
              (T.nil.node (some (TI.mk true (4 : Nat) (40 : Nat) [AV.nilp, AV.nilp, AV.nilp, AV.str []] [] (TK.struct [((17 : Nat), (0 : Nat)), ((17 : Nat), (1 : Nat)), ((17 : Nat), (2 : Nat)), ((9 : Nat), (3 : Nat))])))
                T.nil))).node
        (some (TI.mk true (2 : Nat) (24 : Nat) [AV.str [], AV.int IntKind.u64 (0 : Int)] [] (TK.struct [((9 : Nat), (0 : Nat)), ((12 : Nat), (1 : Nat))])))
        (((T.nil.node
                  (some
                    (TI.mk true (14 : Nat) (136 : Nat)
                      [AV.int IntKind.i64 (0 : Int), AV.int IntKind.i64 (0 : Int), AV.int IntKind.i64 (0 : Int), AV.str [], AV.str [], AV.int IntKind.i64 (0 : Int), AV.int IntKind.i64 (0 : Int),
                        AV.int IntKind.i64 (0 : Int), AV.int IntKind.i64 (0 : Int), AV.int IntKind.i64 (0 : Int), AV.int IntKind.i64 (0 : Int), AV.str [], AV.int IntKind.i64 (0 : Int), AV.int IntKind.i64 (0 : Int)]
                      [FK.i, FK.i, FK.i, FK.s, FK.s, FK.i, FK.i, FK.i, FK.i, FK.i, FK.i, FK.s, FK.i, FK.i]
                      (TK.struct [((3 : Nat), (0 : Nat)), ((3 : Nat), (1 : Nat)), ((33 : Nat), (2 : Nat)), ((3 : Nat), (6 : Nat)), ((3 : Nat), (7 : Nat)), ((70 : Nat), (8 : Nat))])))
                  T.nil).node
              none
              (T.nil.node
                (some
                  (TI.mk true (9 : Nat) (88 : Nat)
                    [AV.bool false, AV.nils, AV.int IntKind.i64 (0 : Int), AV.int IntKind.i64 (0 : Int), AV.int IntKind.i64 (0 : Int), AV.int IntKind.i64 (0 : Int), AV.int IntKind.i64 (0 : Int),
                      AV.int IntKind.i64 (0 : Int), AV.int IntKind.i64 (0 : Int)]
                    [] (TK.struct [((4 : Nat), (0 : Nat)), ((75 : Nat), (1 : Nat)), ((3 : Nat), (2 : Nat)), ((108 : Nat), (3 : Nat))])))
                T.nil)).node
          (some (TI.mk false (1 : Nat) (24 : Nat) [AV.nils] [] (TK.slice (49 : Nat))))
          ((T.nil.node
                (some
                  (TI.mk true (5 : Nat) (40 : Nat) [AV.int IntKind.i64 (0 : Int), AV.int IntKind.i64 (0 : Int), AV.int IntKind.i64 (0 : Int), AV.int IntKind.i64 (0 : Int), AV.int IntKind.i64 (0 : Int)]
                    [FK.i, FK.i, FK.i, FK.i, FK.i] (TK.struct [((3 : Nat), (0 : Nat)), ((3 : Nat), (1 : Nat)), ((3 : Nat), (2 : Nat)), ((3 : Nat), (3 : Nat)), ((3 : Nat), (4 : Nat))])))
                T.nil).node
            (some (TI.mk true (3 : Nat) (40 : Nat) [AV.int IntKind.i64 (0 : Int), AV.nils, AV.int IntKind.i64 (0 : Int)] [] (TK.struct [((3 : Nat), (0 : Nat)), ((56 : Nat), (1 : Nat)), ((3 : Nat), (2 : Nat))])))
            (T.nil.node (some (TI.mk false (1 : Nat) (8 : Nat) [AV.nilf] [] TK.fn)) T.nil))))))
noncomputable def ftL : T Func :=
  ((((((T.nil.node (some Try.f63) T.nil).node (some Try.f31) T.nil).node (some Try.f15) ((T.nil.node (some Try.f79) T.nil).node (some Try.f47) T.nil)).node (some Try.f7)
              (((T.nil.node (some Try.f71) T.nil).node (some Try.f39) T.nil).node (some Try.f23) ((T.nil.node (some Try.f87) T.nil).node (some Try.f55) T.nil))).node
          (some Try.f3)
          ((((T.nil.node (some Try.f67) T.nil).node (some Try.f35) T.nil).node (some Try.f19) ((T.nil.node (some Try.f83) T.nil).node (some Try.f51) T.nil)).node (some Try.f11)
            (((T.nil.node (some Try.f75) T.nil).node (some Try.f43) T.nil).node (some Try.f27) (T.nil.node (some Try.f59) T.nil)))).node
      (some Try.f1)
      (((((T.nil.node (some Try.f65) T.nil).node (some Try.f33) T.nil).node (some Try.f17) ((T.nil.node (some Try.f81) T.nil).node (some Try.f49) T.nil)).node (some Try.f9)
            (((T.nil.node (some Try.f73) T.nil).node (some Try.f41) T.nil).node (some Try.f25) (T.nil.node (some Try.f57) T.nil))).node
        (some Try.f5)
        ((((T.nil.node (some Try.f69) T.nil).node (some Try.f37) T.nil).node (some Try.f21) ((T.nil.node (some Try.f85) T.nil).node (some Try.f53) T.nil)).node (some Try.f13)
          (((T.nil.node (some Try.f77) T.nil).node (some Try.f45) T.nil).node (some Try.f29) (T.nil.node (some Try.f61) T.nil))))).node
  (some Try.f0)
  ((((((T.nil.node (some Try.f64) T.nil).node (some Try.f32) T.nil).node (some Try.f16) ((T.nil.node (some Try.f80) T.nil).node (some Try.f48) T.nil)).node (some Try.f8)
            (((T.nil.node (some Try.f72) T.nil).node (some Try.f40) T.nil).node (some Try.f24) ((T.nil.node (some Try.f88) T.nil).node (some Try.f56) T.nil))).node
        (some Try.f4)
        ((((T.nil.node (some Try.f68) T.nil).node (some Try.f36) T.nil).node (some Try.f20) ((T.nil.node (some Try.f84) T.nil).node (some Try.f52) T.nil)).node (some Try.f12)
          (((T.nil.node (some Try.f76) T.nil).node (some Try.f44) T.nil).node (some Try.f28) (T.nil.node (some Try.f60) T.nil)))).node
    (some Try.f2)
    (((((T.nil.node (some Try.f66) T.nil).node (some Try.f34) T.nil).node (some Try.f18) ((T.nil.node (some Try.f82) T.nil).node (some Try.f50) T.nil)).node (some Try.f10)
          (((T.nil.node (some Try.f74) T.nil).node (some Try.f42) T.nil).node (some Try.f26) (T.nil.node (some Try.f58) T.nil))).node
      (some Try.f6)
      ((((T.nil.node (some Try.f70) T.nil).node (some Try.f38) T.nil).node (some Try.f22) ((T.nil.node (some Try.f86) T.nil).node (some Try.f54) T.nil)).node (some Try.f14)
        (((T.nil.node (some Try.f78) T.nil).node (some Try.f46) T.nil).node (some Try.f30) (T.nil.node (some Try.f62) T.nil)))))
noncomputable def env : Env := ⟨ttL, ftL⟩

theorem env_eq : env = ⟨mkTT Try.prog Try.prog.types.size, mkFT Try.prog.funcs.toList 0⟩ := by kernel_rfl
theorem envOk : EnvOk Try.prog env := by rw [env_eq]; exact envOk_mk _ _ (by kernel_rfl)
theorem own : ownKnob Try.prog.godebug = none := by kernel_rfl
end Go.Proofs.Ytpfgbnmeaalpdaa
