/- Printed: what functions compute, each by the evaluator's own unfolding. -/
import Derived.Test.YtfmikgbachnneaaDoorChecked
import Derived.Test.YtfmikgbachnneaaDoorAm18
set_option linter.unusedSimpArgs false
set_option linter.unusedVariables false
namespace Go.Proofs.YtfmikgbachnneaaDoor
open Go Go.Am
set_option maxRecDepth 100000

/-! 10: orpiment/orpimentref20.Allowed -/
def T10 : List Tab := [⟨0, [2, 2, 3], [], []⟩, ⟨1, [3, 0, 3, 3, 0, 3], [], []⟩, ⟨2, [3], [], []⟩, ⟨3, [0, 1, 1], [], []⟩, ⟨4, [3, 0, 1, 3, 0, 1, 3, 3, 0, 1, 0, 1, 3, 3], [], []⟩, ⟨5, [0, 1, 0, 3], [], []⟩, ⟨6, [0, 1, 0, 1, 1], [], []⟩, ⟨7, [0, 1, 0, 0, 3], [], []⟩, ⟨8, [1, 0, 1, 2], [], []⟩, ⟨9, [0, 1, 0, 0, 3], [], []⟩, ⟨10, [3, 0, 1, 3, 3, 0, 1, 3, 3, 3, 0, 1, 3, 3, 0, 1, 3, 3, 3, 3, 0, 1, 3, 3, 0, 1, 3, 3, 3], [], []⟩]
theorem tk10 : tabsOk Tryd.prog T10 (bodyOf Tryd.prog 10) = true := by kernel_rfl
theorem f10 (call : CallF) (v0 v1 v2 : Value) (h : H) : kCode Tryd.prog call (bodyOf Tryd.prog 10) ⟨#[v0, v1, v2, undef, undef, undef, undef, undef, undef, undef, undef, undef, undef, undef, undef, undef, undef, undef, undef, undef, undef, undef, undef, undef, undef, undef, undef, undef, undef, undef, undef, undef, undef, undef, undef, undef, undef, undef, undef, undef, undef, undef, undef, undef, undef, undef, undef, undef, undef, undef, undef, undef, undef, undef, undef, undef, undef, undef, undef, undef, undef, undef, undef, undef, undef, undef, undef, undef, undef, undef, undef, undef, undef, undef, undef, undef, undef, undef], []⟩ h (kEnd Tryd.prog 10) =
  bd2 (vE Tryd.prog call (.box 30 (.const v0)) 0 h) fun x3 h1 =>
  bd2 (vE Tryd.prog call (.box 26 (.const v1)) 0 h1) fun x4 h2 =>
  bd1 (vP Tryd.prog (.binOp .lss 3 (.const v2) (.const (.int .i64 0)) 3) 4) fun x9 =>
  ifV x9
    (some ((.bool false), h2))
    (bd1 (vP Tryd.prog (.binOp .gtr 3 (.const v2) (.const (.int .i64 7)) 3) 4) fun x12 =>
      ifV x12
        (some ((.bool false), h2))
        (bd1 (vP Tryd.prog (.fieldAddr 26 (.const x4) 0) 0) fun x14 =>
          bd1 (vR Tryd.prog (.load 3 (.const x14)) 3 h2) fun x15 =>
          bd1 (vB Tryd.prog .eql 3 (.tmp 15) (.const (.int .i64 0)) x15 (.int .i64 0) h2) fun x16 =>
          ifV x16
            (bd1 (vP Tryd.prog (.binOp .and 3 (.const v2) (.const (.int .i64 4)) 3) 3) fun x18 =>
              bd1 (vB Tryd.prog .eql 3 (.tmp 18) (.const (.int .i64 0)) x18 (.int .i64 0) h2) fun x19 =>
              ifV x19
                (some ((.bool true), h2))
                (bd1 (vP Tryd.prog (.fieldAddr 30 (.const x3) 5) 0) fun x21 =>
                  bd1 (vR Tryd.prog (.load 4 (.const x21)) 4 h2) fun x22 =>
                  ifV x22
                    (some ((.bool true), h2))
                    (bd1 (vP Tryd.prog (.fieldAddr 30 (.const x3) 0) 0) fun x25 =>
                      bd1 (vR Tryd.prog (.load 3 (.const x25)) 3 h2) fun x26 =>
                      bd1 (vP Tryd.prog (.binOp .and 3 (.const x26) (.const (.int .i64 73)) 3) 3) fun x27 =>
                      bd1 (vB Tryd.prog .neq 3 (.tmp 27) (.const (.int .i64 0)) x27 (.int .i64 0) h2) fun x28 =>
                      some (x28, h2))))
            (bd1 (vP Tryd.prog (.fieldAddr 30 (.const x3) 0) 0) fun x30 =>
              bd1 (vR Tryd.prog (.load 3 (.const x30)) 3 h2) fun x31 =>
              bd1 (vP Tryd.prog (.binOp .and 3 (.const x31) (.const (.int .i64 7)) 3) 3) fun x32 =>
              bd1 (vP Tryd.prog (.fieldAddr 26 (.const x4) 0) 0) fun x33 =>
              bd1 (vR Tryd.prog (.load 3 (.const x33)) 3 h2) fun x34 =>
              bd1 (vP Tryd.prog (.fieldAddr 30 (.const x3) 1) 0) fun x35 =>
              bd1 (vR Tryd.prog (.load 3 (.const x35)) 3 h2) fun x36 =>
              bd1 (vB Tryd.prog .eql 3 (.tmp 34) (.tmp 36) x34 x36 h2) fun x37 =>
              ifV x37
                (bd1 (vP Tryd.prog (.fieldAddr 30 (.const x3) 0) 0) fun x38 =>
                  bd1 (vR Tryd.prog (.load 3 (.const x38)) 3 h2) fun x39 =>
                  bd1 (vP Tryd.prog (.binOp .shr 3 (.const x39) (.const (.int .u64 6)) 67) 3) fun x40 =>
                  bd1 (vP Tryd.prog (.binOp .and 3 (.const x40) (.const (.int .i64 7)) 3) 3) fun x41 =>
                  bd1 (vP Tryd.prog (.binOp .and 3 (.const v2) (.const (.int .i64 1)) 3) 3) fun x51 =>
                  bd1 (vB Tryd.prog .eql 3 (.tmp 51) (.const (.int .i64 0)) x51 (.int .i64 0) h2) fun x52 =>
                  ifV x52
                    (bd1 (vP Tryd.prog (.binOp .and 3 (.const v2) (.const (.int .i64 2)) 3) 3) fun x60 =>
                      bd1 (vB Tryd.prog .eql 3 (.tmp 60) (.const (.int .i64 0)) x60 (.int .i64 0) h2) fun x61 =>
                      ifV x61
                        (bd1 (vP Tryd.prog (.binOp .and 3 (.const v2) (.const (.int .i64 4)) 3) 3) fun x70 =>
                          bd1 (vB Tryd.prog .eql 3 (.tmp 70) (.const (.int .i64 0)) x70 (.int .i64 0) h2) fun x71 =>
                          ifV x71
                            (some ((.bool true), h2))
                            (bd1 (vP Tryd.prog (.binOp .and 3 (.const x41) (.const (.int .i64 1)) 3) 3) fun x74 =>
                              bd1 (vB Tryd.prog .neq 3 (.tmp 74) (.const (.int .i64 0)) x74 (.int .i64 0) h2) fun x75 =>
                              some (x75, h2)))
                        (bd1 (vP Tryd.prog (.binOp .and 3 (.const x41) (.const (.int .i64 2)) 3) 3) fun x64 =>
                          bd1 (vB Tryd.prog .neq 3 (.tmp 64) (.const (.int .i64 0)) x64 (.int .i64 0) h2) fun x65 =>
                          ifV x65
                            (bd1 (vP Tryd.prog (.binOp .and 3 (.const v2) (.const (.int .i64 4)) 3) 3) fun x70 =>
                              bd1 (vB Tryd.prog .eql 3 (.tmp 70) (.const (.int .i64 0)) x70 (.int .i64 0) h2) fun x71 =>
                              ifV x71
                                (some ((.bool true), h2))
                                (bd1 (vP Tryd.prog (.binOp .and 3 (.const x41) (.const (.int .i64 1)) 3) 3) fun x74 =>
                                  bd1 (vB Tryd.prog .neq 3 (.tmp 74) (.const (.int .i64 0)) x74 (.int .i64 0) h2) fun x75 =>
                                  some (x75, h2)))
                            (some ((.bool false), h2))))
                    (bd1 (vP Tryd.prog (.binOp .and 3 (.const x41) (.const (.int .i64 4)) 3) 3) fun x55 =>
                      bd1 (vB Tryd.prog .neq 3 (.tmp 55) (.const (.int .i64 0)) x55 (.int .i64 0) h2) fun x56 =>
                      ifV x56
                        (bd1 (vP Tryd.prog (.binOp .and 3 (.const v2) (.const (.int .i64 2)) 3) 3) fun x60 =>
                          bd1 (vB Tryd.prog .eql 3 (.tmp 60) (.const (.int .i64 0)) x60 (.int .i64 0) h2) fun x61 =>
                          ifV x61
                            (bd1 (vP Tryd.prog (.binOp .and 3 (.const v2) (.const (.int .i64 4)) 3) 3) fun x70 =>
                              bd1 (vB Tryd.prog .eql 3 (.tmp 70) (.const (.int .i64 0)) x70 (.int .i64 0) h2) fun x71 =>
                              ifV x71
                                (some ((.bool true), h2))
                                (bd1 (vP Tryd.prog (.binOp .and 3 (.const x41) (.const (.int .i64 1)) 3) 3) fun x74 =>
                                  bd1 (vB Tryd.prog .neq 3 (.tmp 74) (.const (.int .i64 0)) x74 (.int .i64 0) h2) fun x75 =>
                                  some (x75, h2)))
                            (bd1 (vP Tryd.prog (.binOp .and 3 (.const x41) (.const (.int .i64 2)) 3) 3) fun x64 =>
                              bd1 (vB Tryd.prog .neq 3 (.tmp 64) (.const (.int .i64 0)) x64 (.int .i64 0) h2) fun x65 =>
                              ifV x65
                                (bd1 (vP Tryd.prog (.binOp .and 3 (.const v2) (.const (.int .i64 4)) 3) 3) fun x70 =>
                                  bd1 (vB Tryd.prog .eql 3 (.tmp 70) (.const (.int .i64 0)) x70 (.int .i64 0) h2) fun x71 =>
                                  ifV x71
                                    (some ((.bool true), h2))
                                    (bd1 (vP Tryd.prog (.binOp .and 3 (.const x41) (.const (.int .i64 1)) 3) 3) fun x74 =>
                                      bd1 (vB Tryd.prog .neq 3 (.tmp 74) (.const (.int .i64 0)) x74 (.int .i64 0) h2) fun x75 =>
                                      some (x75, h2)))
                                (some ((.bool false), h2))))
                        (some ((.bool false), h2))))
                (bd1 (vR Tryd.prog (.load 26 (.const x4)) 26 h2) fun x42 =>
                  bd1 (vP Tryd.prog (.fieldAddr 30 (.const x3) 2) 0) fun x43 =>
                  bd1 (vR Tryd.prog (.load 3 (.const x43)) 3 h2) fun x44 =>
                  bd2 (call 28 #[x42, x44] h2) fun x45 h3 =>
                  ifV x45
                    (bd1 (vP Tryd.prog (.fieldAddr 30 (.const x3) 0) 0) fun x46 =>
                      bd1 (vR Tryd.prog (.load 3 (.const x46)) 3 h3) fun x47 =>
                      bd1 (vP Tryd.prog (.binOp .shr 3 (.const x47) (.const (.int .u64 3)) 67) 3) fun x48 =>
                      bd1 (vP Tryd.prog (.binOp .and 3 (.const x48) (.const (.int .i64 7)) 3) 3) fun x49 =>
                      bd1 (vP Tryd.prog (.binOp .and 3 (.const v2) (.const (.int .i64 1)) 3) 3) fun x51 =>
                      bd1 (vB Tryd.prog .eql 3 (.tmp 51) (.const (.int .i64 0)) x51 (.int .i64 0) h3) fun x52 =>
                      ifV x52
                        (bd1 (vP Tryd.prog (.binOp .and 3 (.const v2) (.const (.int .i64 2)) 3) 3) fun x60 =>
                          bd1 (vB Tryd.prog .eql 3 (.tmp 60) (.const (.int .i64 0)) x60 (.int .i64 0) h3) fun x61 =>
                          ifV x61
                            (bd1 (vP Tryd.prog (.binOp .and 3 (.const v2) (.const (.int .i64 4)) 3) 3) fun x70 =>
                              bd1 (vB Tryd.prog .eql 3 (.tmp 70) (.const (.int .i64 0)) x70 (.int .i64 0) h3) fun x71 =>
                              ifV x71
                                (some ((.bool true), h3))
                                (bd1 (vP Tryd.prog (.binOp .and 3 (.const x49) (.const (.int .i64 1)) 3) 3) fun x74 =>
                                  bd1 (vB Tryd.prog .neq 3 (.tmp 74) (.const (.int .i64 0)) x74 (.int .i64 0) h3) fun x75 =>
                                  some (x75, h3)))
                            (bd1 (vP Tryd.prog (.binOp .and 3 (.const x49) (.const (.int .i64 2)) 3) 3) fun x64 =>
                              bd1 (vB Tryd.prog .neq 3 (.tmp 64) (.const (.int .i64 0)) x64 (.int .i64 0) h3) fun x65 =>
                              ifV x65
                                (bd1 (vP Tryd.prog (.binOp .and 3 (.const v2) (.const (.int .i64 4)) 3) 3) fun x70 =>
                                  bd1 (vB Tryd.prog .eql 3 (.tmp 70) (.const (.int .i64 0)) x70 (.int .i64 0) h3) fun x71 =>
                                  ifV x71
                                    (some ((.bool true), h3))
                                    (bd1 (vP Tryd.prog (.binOp .and 3 (.const x49) (.const (.int .i64 1)) 3) 3) fun x74 =>
                                      bd1 (vB Tryd.prog .neq 3 (.tmp 74) (.const (.int .i64 0)) x74 (.int .i64 0) h3) fun x75 =>
                                      some (x75, h3)))
                                (some ((.bool false), h3))))
                        (bd1 (vP Tryd.prog (.binOp .and 3 (.const x49) (.const (.int .i64 4)) 3) 3) fun x55 =>
                          bd1 (vB Tryd.prog .neq 3 (.tmp 55) (.const (.int .i64 0)) x55 (.int .i64 0) h3) fun x56 =>
                          ifV x56
                            (bd1 (vP Tryd.prog (.binOp .and 3 (.const v2) (.const (.int .i64 2)) 3) 3) fun x60 =>
                              bd1 (vB Tryd.prog .eql 3 (.tmp 60) (.const (.int .i64 0)) x60 (.int .i64 0) h3) fun x61 =>
                              ifV x61
                                (bd1 (vP Tryd.prog (.binOp .and 3 (.const v2) (.const (.int .i64 4)) 3) 3) fun x70 =>
                                  bd1 (vB Tryd.prog .eql 3 (.tmp 70) (.const (.int .i64 0)) x70 (.int .i64 0) h3) fun x71 =>
                                  ifV x71
                                    (some ((.bool true), h3))
                                    (bd1 (vP Tryd.prog (.binOp .and 3 (.const x49) (.const (.int .i64 1)) 3) 3) fun x74 =>
                                      bd1 (vB Tryd.prog .neq 3 (.tmp 74) (.const (.int .i64 0)) x74 (.int .i64 0) h3) fun x75 =>
                                      some (x75, h3)))
                                (bd1 (vP Tryd.prog (.binOp .and 3 (.const x49) (.const (.int .i64 2)) 3) 3) fun x64 =>
                                  bd1 (vB Tryd.prog .neq 3 (.tmp 64) (.const (.int .i64 0)) x64 (.int .i64 0) h3) fun x65 =>
                                  ifV x65
                                    (bd1 (vP Tryd.prog (.binOp .and 3 (.const v2) (.const (.int .i64 4)) 3) 3) fun x70 =>
                                      bd1 (vB Tryd.prog .eql 3 (.tmp 70) (.const (.int .i64 0)) x70 (.int .i64 0) h3) fun x71 =>
                                      ifV x71
                                        (some ((.bool true), h3))
                                        (bd1 (vP Tryd.prog (.binOp .and 3 (.const x49) (.const (.int .i64 1)) 3) 3) fun x74 =>
                                          bd1 (vB Tryd.prog .neq 3 (.tmp 74) (.const (.int .i64 0)) x74 (.int .i64 0) h3) fun x75 =>
                                          some (x75, h3)))
                                    (some ((.bool false), h3))))
                            (some ((.bool false), h3))))
                    (bd1 (vP Tryd.prog (.binOp .and 3 (.const v2) (.const (.int .i64 1)) 3) 3) fun x51 =>
                      bd1 (vB Tryd.prog .eql 3 (.tmp 51) (.const (.int .i64 0)) x51 (.int .i64 0) h3) fun x52 =>
                      ifV x52
                        (bd1 (vP Tryd.prog (.binOp .and 3 (.const v2) (.const (.int .i64 2)) 3) 3) fun x60 =>
                          bd1 (vB Tryd.prog .eql 3 (.tmp 60) (.const (.int .i64 0)) x60 (.int .i64 0) h3) fun x61 =>
                          ifV x61
                            (bd1 (vP Tryd.prog (.binOp .and 3 (.const v2) (.const (.int .i64 4)) 3) 3) fun x70 =>
                              bd1 (vB Tryd.prog .eql 3 (.tmp 70) (.const (.int .i64 0)) x70 (.int .i64 0) h3) fun x71 =>
                              ifV x71
                                (some ((.bool true), h3))
                                (bd1 (vP Tryd.prog (.binOp .and 3 (.const x32) (.const (.int .i64 1)) 3) 3) fun x74 =>
                                  bd1 (vB Tryd.prog .neq 3 (.tmp 74) (.const (.int .i64 0)) x74 (.int .i64 0) h3) fun x75 =>
                                  some (x75, h3)))
                            (bd1 (vP Tryd.prog (.binOp .and 3 (.const x32) (.const (.int .i64 2)) 3) 3) fun x64 =>
                              bd1 (vB Tryd.prog .neq 3 (.tmp 64) (.const (.int .i64 0)) x64 (.int .i64 0) h3) fun x65 =>
                              ifV x65
                                (bd1 (vP Tryd.prog (.binOp .and 3 (.const v2) (.const (.int .i64 4)) 3) 3) fun x70 =>
                                  bd1 (vB Tryd.prog .eql 3 (.tmp 70) (.const (.int .i64 0)) x70 (.int .i64 0) h3) fun x71 =>
                                  ifV x71
                                    (some ((.bool true), h3))
                                    (bd1 (vP Tryd.prog (.binOp .and 3 (.const x32) (.const (.int .i64 1)) 3) 3) fun x74 =>
                                      bd1 (vB Tryd.prog .neq 3 (.tmp 74) (.const (.int .i64 0)) x74 (.int .i64 0) h3) fun x75 =>
                                      some (x75, h3)))
                                (some ((.bool false), h3))))
                        (bd1 (vP Tryd.prog (.binOp .and 3 (.const x32) (.const (.int .i64 4)) 3) 3) fun x55 =>
                          bd1 (vB Tryd.prog .neq 3 (.tmp 55) (.const (.int .i64 0)) x55 (.int .i64 0) h3) fun x56 =>
                          ifV x56
                            (bd1 (vP Tryd.prog (.binOp .and 3 (.const v2) (.const (.int .i64 2)) 3) 3) fun x60 =>
                              bd1 (vB Tryd.prog .eql 3 (.tmp 60) (.const (.int .i64 0)) x60 (.int .i64 0) h3) fun x61 =>
                              ifV x61
                                (bd1 (vP Tryd.prog (.binOp .and 3 (.const v2) (.const (.int .i64 4)) 3) 3) fun x70 =>
                                  bd1 (vB Tryd.prog .eql 3 (.tmp 70) (.const (.int .i64 0)) x70 (.int .i64 0) h3) fun x71 =>
                                  ifV x71
                                    (some ((.bool true), h3))
                                    (bd1 (vP Tryd.prog (.binOp .and 3 (.const x32) (.const (.int .i64 1)) 3) 3) fun x74 =>
                                      bd1 (vB Tryd.prog .neq 3 (.tmp 74) (.const (.int .i64 0)) x74 (.int .i64 0) h3) fun x75 =>
                                      some (x75, h3)))
                                (bd1 (vP Tryd.prog (.binOp .and 3 (.const x32) (.const (.int .i64 2)) 3) 3) fun x64 =>
                                  bd1 (vB Tryd.prog .neq 3 (.tmp 64) (.const (.int .i64 0)) x64 (.int .i64 0) h3) fun x65 =>
                                  ifV x65
                                    (bd1 (vP Tryd.prog (.binOp .and 3 (.const v2) (.const (.int .i64 4)) 3) 3) fun x70 =>
                                      bd1 (vB Tryd.prog .eql 3 (.tmp 70) (.const (.int .i64 0)) x70 (.int .i64 0) h3) fun x71 =>
                                      ifV x71
                                        (some ((.bool true), h3))
                                        (bd1 (vP Tryd.prog (.binOp .and 3 (.const x32) (.const (.int .i64 1)) 3) 3) fun x74 =>
                                          bd1 (vB Tryd.prog .neq 3 (.tmp 74) (.const (.int .i64 0)) x74 (.int .i64 0) h3) fun x75 =>
                                          some (x75, h3)))
                                    (some ((.bool false), h3))))
                            (some ((.bool false), h3)))))))) := textL T10 78 tk10 rfl (by kernel_rfl)


/-! 28: orpiment/orpimentref20.member -/
def T28 : List Tab := [⟨0, [2, 3], [], []⟩, ⟨1, [0, 1, 3, 1], [], []⟩, ⟨2, [3], [], []⟩, ⟨3, [3], [], []⟩, ⟨4, [3, 0, 1, 1, 0], [], []⟩, ⟨6, [0, 1, 3, 0, 1, 3, 1], [], []⟩, ⟨7, [3], [], []⟩, ⟨5, [3, 0, 3], [], []⟩, ⟨8, [3], [], []⟩]
theorem tk28 : tabsOk Tryd.prog T28 (bodyOf Tryd.prog 28) = true := by kernel_rfl
theorem f28 (call : CallF) (v0 v1 : Value) (h : H) : kCode Tryd.prog call (bodyOf Tryd.prog 28) ⟨#[v0, v1, undef, undef, undef, undef, undef, undef, undef, undef, undef, undef, undef, undef, undef, undef, undef, undef, undef, undef, undef, undef, undef, undef], []⟩ h (kEnd Tryd.prog 28) =
  bd2 (vE Tryd.prog call (.box 26 (.const v0)) 0 h) fun x2 h1 =>
  bd1 (vP Tryd.prog (.fieldAddr 26 (.const x2) 1) 0) fun x6 =>
  bd1 (vR Tryd.prog (.load 3 (.const x6)) 3 h1) fun x7 =>
  bd1 (vB Tryd.prog .eql 3 (.tmp 7) (.tmp 8) x7 v1 h1) fun x9 =>
  ifV x9
    (some ((.bool true), h1))
    (kCode Tryd.prog call (codeAt (bodyOf Tryd.prog 28) [1, 1, 0, 1, 0]) ⟨#[v0, v1, x2, undef, (.bool false), (.int .i64 0), x6, x7, v1, (.bool false), undef, undef, undef, undef, undef, undef, undef, undef, undef, undef, undef, undef, undef, undef], []⟩ h1 (kPath Tryd.prog call (bodyOf Tryd.prog 28) [1, 1, 0, 1, 0] (kEnd Tryd.prog 28))) := textL T28 24 tk28 rfl (by kernel_rfl)
theorem f28_l11010 (call : CallF) (v0 v1 v2 v3 v4 v5 v6 v7 v8 v9 v10 v11 v12 v13 v14 v15 v16 v17 v18 v19 v20 v21 v22 v23 : Value) (h : H) (k : Exit → Act → H → Option (Value × H)) : kCode Tryd.prog call (codeAt (bodyOf Tryd.prog 28) [1, 1, 0, 1, 0, 0]) ⟨#[v0, v1, v2, v3, v4, v5, v6, v7, v8, v9, v10, v11, v12, v13, v14, v15, v16, v17, v18, v19, v20, v21, v22, v23], []⟩ h (again Tryd.prog call (codeAt (bodyOf Tryd.prog 28) [1, 1, 0, 1, 0, 0]) k) =
  bd1 (vP Tryd.prog (.fieldAddr 26 (.const v2) 2) 0) fun x11 =>
  bd1 (vR Tryd.prog (.load 24 (.const x11)) 24 h) fun x12 =>
  bd1 (vR Tryd.prog (.call ⟨.builtin .len, #[(.const x12)], #[24]⟩) 3 h) fun x13 =>
  bd1 (vP Tryd.prog (.binOp .lss 3 (.const v5) (.const x13) 3) 4) fun x14 =>
  ifV x14
    (bd1 (vP Tryd.prog (.fieldAddr 26 (.const v2) 2) 0) fun x17 =>
      bd1 (vR Tryd.prog (.load 24 (.const x17)) 24 h) fun x18 =>
      bd1 (vP Tryd.prog (.indexAddr 24 (.const x18) (.const v5)) 0) fun x20 =>
      bd1 (vR Tryd.prog (.load 3 (.const x20)) 3 h) fun x21 =>
      bd1 (vB Tryd.prog .eql 3 (.tmp 21) (.tmp 22) x21 v1 h) fun x23 =>
      ifV x23
        (k .ret ⟨#[v0, v1, v2, v3, (.bool true), v5, v6, v7, v8, v9, v5, x11, x12, x13, (.bool true), v15, v16, x17, x18, v5, x20, x21, v1, (.bool true)], []⟩ h)
        (bd1 (vP Tryd.prog (.binOp .add 3 (.const v5) (.const (.int .i64 1)) 3) 3) fun x16 =>
          kCode Tryd.prog call (codeAt (bodyOf Tryd.prog 28) [1, 1, 0, 1, 0]) ⟨#[v0, v1, v2, v3, v4, x16, v6, v7, v8, v9, v5, x11, x12, x13, (.bool true), v5, x16, x17, x18, v5, x20, x21, v1, (.bool false)], []⟩ h k))
    (k (.exit 0) ⟨#[v0, v1, v2, v3, v4, v5, v6, v7, v8, v9, v5, x11, x12, x13, (.bool false), v15, v16, v17, v18, v19, v20, v21, v22, v23], []⟩ h) := roundL T28 24 (tabs_at _ _ tk28) rfl (by kernel_rfl)
theorem f28_l11010_eq : (codeAt (bodyOf Tryd.prog 28) [1, 1, 0, 1, 0]) = .loop (codeAt (bodyOf Tryd.prog 28) [1, 1, 0, 1, 0, 0]) := by kernel_rfl
theorem f28_l11010_E0 (call : CallF) (v0 v1 v2 v3 v4 v5 v6 v7 v8 v9 v10 v11 v12 v13 v14 v15 v16 v17 v18 v19 v20 v21 v22 v23 : Value) (h : H) : kPath Tryd.prog call (bodyOf Tryd.prog 28) [1, 1, 0, 1, 0] (kEnd Tryd.prog 28) (.exit 0) ⟨#[v0, v1, v2, v3, v4, v5, v6, v7, v8, v9, v10, v11, v12, v13, v14, v15, v16, v17, v18, v19, v20, v21, v22, v23], []⟩ h =
  some ((.bool false), h) := behindL T28 24 tk28 rfl (by kernel_rfl)
theorem f28_l11010_R (call : CallF) (v0 v1 v2 v3 v4 v5 v6 v7 v8 v9 v10 v11 v12 v13 v14 v15 v16 v17 v18 v19 v20 v21 v22 v23 : Value) (h : H) : kPath Tryd.prog call (bodyOf Tryd.prog 28) [1, 1, 0, 1, 0] (kEnd Tryd.prog 28) .ret ⟨#[v0, v1, v2, v3, v4, v5, v6, v7, v8, v9, v10, v11, v12, v13, v14, v15, v16, v17, v18, v19, v20, v21, v22, v23], []⟩ h =
  some (v4, h) := behindL T28 24 tk28 rfl (by kernel_rfl)


end Go.Proofs.YtfmikgbachnneaaDoor
