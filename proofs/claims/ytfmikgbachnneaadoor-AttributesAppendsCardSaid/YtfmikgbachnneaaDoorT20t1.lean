/- Printed: what functions compute, each by the evaluator's own unfolding. -/
import Derived.Test.YtfmikgbachnneaaDoorChecked
import Derived.Test.YtfmikgbachnneaaDoorAm18
set_option linter.unusedSimpArgs false
set_option linter.unusedVariables false
namespace Go.Proofs.YtfmikgbachnneaaDoor
open Go Go.Am
set_option maxRecDepth 100000

/-! 9: orpiment/attributes.Allowed -/
def T9 : List Tab := [⟨0, [2, 2, 3], [], []⟩, ⟨1, [3, 0, 3, 3, 0, 3], [], []⟩, ⟨2, [3], [], []⟩, ⟨3, [0, 1, 0, 0, 2], [], []⟩, ⟨4, [3], [], []⟩, ⟨5, [1, 3], [], []⟩, ⟨6, [0], [], []⟩, ⟨7, [0, 2, 2], [], []⟩, ⟨8, [1, 1, 2, 0, 1, 0, 1], [0, 0, 3, 0, 8, 31, 63], [4, 4, 0, 0, 132, 0, 128]⟩, ⟨9, [3, 0, 1, 0, 3], [], []⟩, ⟨10, [0, 3], [], []⟩, ⟨11, [0, 1, 1], [], []⟩, ⟨12, [3], [], []⟩, ⟨13, [0, 1, 3, 0, 1, 0, 1, 3], [], []⟩, ⟨14, [3, 0, 3], [], []⟩, ⟨15, [3, 3, 0, 1, 3], [], []⟩]
theorem tk9 : tabsOk Tryd.prog T9 (bodyOf Tryd.prog 9) = true := by kernel_rfl
theorem f9 (call : CallF) (v0 v1 v2 : Value) (h : H) : kCode Tryd.prog call (bodyOf Tryd.prog 9) ⟨#[v0, v1, v2, undef, undef, undef, undef, undef, undef, undef, undef, undef, undef, undef, undef, undef, undef, undef, undef, undef, undef, undef, undef, undef, undef, undef, undef, undef, undef, undef, undef, undef, undef, undef, undef, undef, undef, undef, undef, undef, undef, undef, undef, undef, undef, undef, undef, undef, undef, undef, undef, undef, undef], []⟩ h (kEnd Tryd.prog 9) =
  bd2 (vE Tryd.prog call (.box 23 (.const v0)) 0 h) fun x3 h1 =>
  bd2 (vE Tryd.prog call (.box 26 (.const v1)) 0 h1) fun x4 h2 =>
  bd1 (vP Tryd.prog (.binOp .lss 3 (.const v2) (.const (.int .i64 0)) 3) 4) fun x11 =>
  ifV x11
    (some ((.bool false), h2))
    (bd1 (vP Tryd.prog (.binOp .gtr 3 (.const v2) (.const (.int .i64 7)) 3) 4) fun x14 =>
      ifV x14
        (some ((.bool false), h2))
        (bd1 (vP Tryd.prog (.fieldAddr 23 (.const x3) 0) 0) fun x16 =>
          bd1 (vR Tryd.prog (.load 3 (.const x16)) 3 h2) fun x17 =>
          bd1 (vP Tryd.prog (.binOp .and 3 (.const x17) (.const (.int .i64 4095)) 3) 3) fun x18 =>
          bd1 (vP Tryd.prog (.fieldAddr 23 (.const x3) 0) 0) fun x19 =>
          bd2 (vE Tryd.prog call (.store 3 (.const x19) (.const x18)) 0 h2) fun _ h3 =>
          bd1 (vR Tryd.prog (.load 65 (.const (.pointer (some ⟨0, 0, none⟩)))) 65 h3) fun x20 =>
          kCode Tryd.prog call (codeAt (bodyOf Tryd.prog 9) [1, 1, 1, 1, 0, 1, 0]) ⟨#[v0, v1, v2, x3, x4, undef, (.bool false), (.int .i64 0), undef, undef, v2, x11, (.bool false), v2, x14, (.bool false), x16, x17, x18, x19, x20, (.int .i64 0), undef, undef, undef, undef, undef, undef, undef, undef, undef, undef, undef, undef, undef, undef, undef, undef, undef, undef, undef, undef, undef, undef, undef, undef, undef, undef, undef, undef, undef, undef, undef], []⟩ h3 (kPath Tryd.prog call (bodyOf Tryd.prog 9) [1, 1, 1, 1, 0, 1, 0] (kEnd Tryd.prog 9)))) := textL T9 53 tk9 rfl (by kernel_rfl)
theorem f9_l1111010 (call : CallF) (v0 v1 v2 v3 v4 v5 v6 v7 v8 v9 v10 v11 v12 v13 v14 v15 v16 v17 v18 v19 v20 v21 v22 v23 v24 v25 v26 v27 v28 v29 v30 v31 v32 v33 v34 v35 v36 v37 v38 v39 v40 v41 v42 v43 v44 v45 v46 v47 v48 v49 v50 v51 v52 : Value) (h : H) (k : Exit → Act → H → Option (Value × H)) : kCode Tryd.prog call (codeAt (bodyOf Tryd.prog 9) [1, 1, 1, 1, 0, 1, 0, 0]) ⟨#[v0, v1, v2, v3, v4, v5, v6, v7, v8, v9, v10, v11, v12, v13, v14, v15, v16, v17, v18, v19, v20, v21, v22, v23, v24, v25, v26, v27, v28, v29, v30, v31, v32, v33, v34, v35, v36, v37, v38, v39, v40, v41, v42, v43, v44, v45, v46, v47, v48, v49, v50, v51, v52], []⟩ h (again Tryd.prog call (codeAt (bodyOf Tryd.prog 9) [1, 1, 1, 1, 0, 1, 0, 0]) k) =
  bd1 (vP Tryd.prog (.binOp .lss 3 (.const v21) (.const (.int .i64 3)) 3) 0) fun x22 =>
  ifV x22
    (bd1 (vP Tryd.prog (.index 65 (.const v20) (.const v21)) 64) fun x23 =>
      bd2 (vE Tryd.prog call (.alloc 64) 0 h) fun x9 h1 =>
      bd2 (vE Tryd.prog call (.store 64 (.const x9) (.const x23)) 0 h1) fun _ h2 =>
      bd1 (vR Tryd.prog (.load 23 (.const v3)) 23 h2) fun x24 =>
      bd1 (vR Tryd.prog (.load 26 (.const v4)) 26 h2) fun x25 =>
      same (vR Tryd.prog (.load 23 (.const v3)) 23 h2) x24 <| same (vR Tryd.prog (.load 26 (.const v4)) 26 h2) x25 <| bd2 (call 27 #[x24, x25] h2) fun x26 h3 =>
      bd1 (vP Tryd.prog (.fieldAddr 64 (.const x9) 0) 0) fun x27 =>
      bd1 (vR Tryd.prog (.load 3 (.const x27)) 3 h3) fun x28 =>
      same (vR Tryd.prog (.load 3 (.const x27)) 3 h2) x28 <| bd1 (vP Tryd.prog (.binOp .and 3 (.const x26) (.const x28) 3) 3) fun x29 =>
      bd1 (vB Tryd.prog .neq 3 (.tmp 29) (.const (.int .i64 0)) x29 (.int .i64 0) h3) fun x30 =>
      same (vR Tryd.prog (.load 3 (.const x27)) 3 h3) x28 <| same (vB Tryd.prog .neq 3 (.tmp 29) (.const (.int .i64 0)) x29 (.int .i64 0) h3) x30 <| ifV x30
        (bd1 (vP Tryd.prog (.fieldAddr 64 (.const x9) 1) 0) fun x32 =>
          bd1 (vR Tryd.prog (.load 3 (.const x32)) 3 h3) fun x33 =>
          bd1 (vP Tryd.prog (.binOp .or 3 (.const v7) (.const x33) 3) 3) fun x34 =>
          bd1 (vP Tryd.prog (.binOp .add 3 (.const v21) (.const (.int .i64 1)) 3) 3) fun x35 =>
          kCode Tryd.prog call (codeAt (bodyOf Tryd.prog 9) [1, 1, 1, 1, 0, 1, 0]) ⟨#[v0, v1, v2, v3, v4, v5, v6, x34, v8, x9, v10, v11, v12, v13, v14, v15, v16, v17, v18, v19, v20, x35, (.bool true), x23, x24, x25, x26, x27, x28, x29, (.bool true), v7, x32, x33, x34, x35, v36, v37, v38, v39, v40, v41, v42, v43, v44, v45, v46, v47, v48, v49, v50, v51, v52], []⟩ h3 k)
        (bd1 (vP Tryd.prog (.binOp .add 3 (.const v21) (.const (.int .i64 1)) 3) 3) fun x35 =>
          kCode Tryd.prog call (codeAt (bodyOf Tryd.prog 9) [1, 1, 1, 1, 0, 1, 0]) ⟨#[v0, v1, v2, v3, v4, v5, v6, v7, v8, x9, v10, v11, v12, v13, v14, v15, v16, v17, v18, v19, v20, x35, (.bool true), x23, x24, x25, x26, x27, x28, x29, (.bool false), v31, v32, v33, v34, x35, v36, v37, v38, v39, v40, v41, v42, v43, v44, v45, v46, v47, v48, v49, v50, v51, v52], []⟩ h3 k))
    (k (.exit 0) ⟨#[v0, v1, v2, v3, v4, v5, v6, v7, v8, v9, v10, v11, v12, v13, v14, v15, v16, v17, v18, v19, v20, v21, (.bool false), v23, v24, v25, v26, v27, v28, v29, v30, v31, v32, v33, v34, v35, v36, v37, v38, v39, v40, v41, v42, v43, v44, v45, v46, v47, v48, v49, v50, v51, v52], []⟩ h) := roundL T9 53 (tabs_at _ _ tk9) rfl (by kernel_rfl)
theorem f9_l1111010_eq : (codeAt (bodyOf Tryd.prog 9) [1, 1, 1, 1, 0, 1, 0]) = .loop (codeAt (bodyOf Tryd.prog 9) [1, 1, 1, 1, 0, 1, 0, 0]) := by kernel_rfl
theorem f9_l1111010_E0 (call : CallF) (v0 v1 v2 v3 v4 v5 v6 v7 v8 v9 v10 v11 v12 v13 v14 v15 v16 v17 v18 v19 v20 v21 v22 v23 v24 v25 v26 v27 v28 v29 v30 v31 v32 v33 v34 v35 v36 v37 v38 v39 v40 v41 v42 v43 v44 v45 v46 v47 v48 v49 v50 v51 v52 : Value) (h : H) : kPath Tryd.prog call (bodyOf Tryd.prog 9) [1, 1, 1, 1, 0, 1, 0] (kEnd Tryd.prog 9) (.exit 0) ⟨#[v0, v1, v2, v3, v4, v5, v6, v7, v8, v9, v10, v11, v12, v13, v14, v15, v16, v17, v18, v19, v20, v21, v22, v23, v24, v25, v26, v27, v28, v29, v30, v31, v32, v33, v34, v35, v36, v37, v38, v39, v40, v41, v42, v43, v44, v45, v46, v47, v48, v49, v50, v51, v52], []⟩ h =
  bd1 (vP Tryd.prog (.fieldAddr 26 (.const v4) 0) 0) fun x36 =>
  bd1 (vR Tryd.prog (.load 3 (.const x36)) 3 h) fun x37 =>
  bd1 (vB Tryd.prog .eql 3 (.tmp 37) (.const (.int .i64 0)) x37 (.int .i64 0) h) fun x38 =>
  ifV x38
    (bd1 (vP Tryd.prog (.fieldAddr 23 (.const v3) 5) 0) fun x39 =>
      bd1 (vR Tryd.prog (.load 4 (.const x39)) 4 h) fun x40 =>
      ifV x40
        (bd1 (vP Tryd.prog (.binOp .or 3 (.const (.int .i64 3)) (.const (.int .i64 4)) 3) 3) fun x48 =>
          bd1 (vP Tryd.prog (.binOp .andNot 3 (.const v2) (.const x48) 3) 3) fun x51 =>
          bd1 (vB Tryd.prog .eql 3 (.tmp 51) (.const (.int .i64 0)) x51 (.int .i64 0) h) fun x52 =>
          some (x52, h))
        (bd1 (vP Tryd.prog (.fieldAddr 23 (.const v3) 0) 0) fun x42 =>
          bd1 (vR Tryd.prog (.load 3 (.const x42)) 3 h) fun x43 =>
          bd1 (vP Tryd.prog (.binOp .and 3 (.const x43) (.const (.int .i64 73)) 3) 3) fun x44 =>
          bd1 (vB Tryd.prog .neq 3 (.tmp 44) (.const (.int .i64 0)) x44 (.int .i64 0) h) fun x45 =>
          ifV x45
            (bd1 (vP Tryd.prog (.binOp .or 3 (.const (.int .i64 3)) (.const (.int .i64 4)) 3) 3) fun x48 =>
              bd1 (vP Tryd.prog (.binOp .andNot 3 (.const v2) (.const x48) 3) 3) fun x51 =>
              bd1 (vB Tryd.prog .eql 3 (.tmp 51) (.const (.int .i64 0)) x51 (.int .i64 0) h) fun x52 =>
              some (x52, h))
            (bd1 (vP Tryd.prog (.binOp .andNot 3 (.const v2) (.const (.int .i64 3)) 3) 3) fun x51 =>
              bd1 (vB Tryd.prog .eql 3 (.tmp 51) (.const (.int .i64 0)) x51 (.int .i64 0) h) fun x52 =>
              some (x52, h))))
    (bd1 (vP Tryd.prog (.binOp .andNot 3 (.const v2) (.const v7) 3) 3) fun x51 =>
      bd1 (vB Tryd.prog .eql 3 (.tmp 51) (.const (.int .i64 0)) x51 (.int .i64 0) h) fun x52 =>
      some (x52, h)) := behindL T9 53 tk9 rfl (by kernel_rfl)


/-! 11: orpiment/attributes.New -/
def T11 : List Tab := [⟨0, [3], [], []⟩, ⟨1, [2, 0, 0, 2, 0, 0, 2, 3], [], []⟩]
theorem tk11 : tabsOk Tryd.prog T11 (bodyOf Tryd.prog 11) = true := by kernel_rfl
theorem f11 (call : CallF) (h : H) : kCode Tryd.prog call (bodyOf Tryd.prog 11) ⟨#[undef, undef, undef, undef, undef, undef, undef, undef], []⟩ h (kEnd Tryd.prog 11) =
  bd2 (vE Tryd.prog call (.makeMap 69 none) 69 h) fun x1 h1 =>
  bd1 (vP Tryd.prog (.build 71 #[(0, (.const x1))]) 71) fun x2 =>
  bd1 (vP Tryd.prog (.build 73 #[(0, (.const x2))]) 73) fun x3 =>
  bd2 (vE Tryd.prog call (.makeMap 74 none) 74 h1) fun x4 h2 =>
  bd1 (vP Tryd.prog (.build 76 #[(0, (.const x4))]) 76) fun x5 =>
  bd1 (vP Tryd.prog (.build 78 #[(0, (.const x3)), (1, (.const x5))]) 78) fun x6 =>
  bd2 (vE Tryd.prog call (.box 78 (.const x6)) 32 h2) fun x7 h3 =>
  some (x7, h3) := textL T11 8 tk11 rfl (by kernel_rfl)


/-! 12: (*orpiment/attributes.Table).Create -/
def T12 : List Tab := [⟨0, [2, 3, 3], [], []⟩, ⟨1, [3, 1, 3], [], []⟩, ⟨2, [3, 3], [], []⟩, ⟨3, [0, 1, 0, 3, 0, 1, 0, 3, 3, 0, 1, 0, 3, 3, 0, 1, 0, 3, 3, 0, 1, 0, 3, 3, 0, 1, 0, 3, 3, 0, 1, 0, 3, 3], [], []⟩, ⟨4, [3, 3], [], []⟩, ⟨5, [3, 0, 0, 0, 1, 1, 0, 3], [], []⟩, ⟨6, [3, 3], [], []⟩, ⟨7, [3, 0, 0, 1, 2, 3, 3], [0, 1, 3, 0, 15, 31, 63], [0, 0, 0, 16, 0, 0, 0]⟩]
theorem tk12 : tabsOk Tryd.prog T12 (bodyOf Tryd.prog 12) = true := by kernel_rfl
theorem f12 (call : CallF) (v0 v1 : Value) (h : H) : kCode Tryd.prog call (bodyOf Tryd.prog 12) ⟨#[v0, v1, undef, undef, undef, undef, undef, undef, undef, undef, undef, undef, undef, undef, undef, undef, undef, undef, undef, undef, undef, undef, undef, undef, undef, undef, undef, undef, undef, undef, undef, undef, undef, undef, undef, undef, undef, undef, undef, undef, undef, undef, undef, undef, undef, undef, undef, undef, undef, undef, undef, undef, undef, undef, undef, undef], []⟩ h (kEnd Tryd.prog 12) =
  bd2 (vE Tryd.prog call (.box 23 (.const v1)) 0 h) fun x3 h1 =>
  bd1 (vB Tryd.prog .eql 32 (.tmp 7) (.const (.pointer none)) v0 (.pointer none) h1) fun x8 =>
  ifV x8
    (some (.tuple #[(.int .i64 0), (.int .i64 35)], h1))
    (bd1 (vP Tryd.prog (.fieldAddr 23 (.const x3) 0) 0) fun x10 =>
      bd1 (vR Tryd.prog (.load 3 (.const x10)) 3 h1) fun x11 =>
      bd1 (vP Tryd.prog (.binOp .lss 3 (.const x11) (.const (.int .i64 0)) 3) 4) fun x12 =>
      ifV x12
        (some (.tuple #[(.int .i64 0), (.int .i64 34)], h1))
        (bd1 (vP Tryd.prog (.fieldAddr 23 (.const x3) 0) 0) fun x14 =>
          bd1 (vR Tryd.prog (.load 3 (.const x14)) 3 h1) fun x15 =>
          bd1 (vP Tryd.prog (.binOp .gtr 3 (.const x15) (.const (.int .i64 4095)) 3) 4) fun x16 =>
          ifV x16
            (some (.tuple #[(.int .i64 0), (.int .i64 34)], h1))
            (bd1 (vP Tryd.prog (.fieldAddr 23 (.const x3) 1) 0) fun x19 =>
              bd1 (vR Tryd.prog (.load 3 (.const x19)) 3 h1) fun x20 =>
              bd1 (vP Tryd.prog (.binOp .lss 3 (.const x20) (.const (.int .i64 0)) 3) 4) fun x21 =>
              ifV x21
                (some (.tuple #[(.int .i64 0), (.int .i64 34)], h1))
                (bd1 (vP Tryd.prog (.fieldAddr 23 (.const x3) 2) 0) fun x24 =>
                  bd1 (vR Tryd.prog (.load 3 (.const x24)) 3 h1) fun x25 =>
                  bd1 (vP Tryd.prog (.binOp .lss 3 (.const x25) (.const (.int .i64 0)) 3) 4) fun x26 =>
                  ifV x26
                    (some (.tuple #[(.int .i64 0), (.int .i64 34)], h1))
                    (bd1 (vP Tryd.prog (.fieldAddr 23 (.const x3) 3) 0) fun x29 =>
                      bd1 (vR Tryd.prog (.load 2 (.const x29)) 2 h1) fun x30 =>
                      bd1 (vP Tryd.prog (.binOp .lss 2 (.const x30) (.const (.int .i64 0)) 2) 4) fun x31 =>
                      ifV x31
                        (some (.tuple #[(.int .i64 0), (.int .i64 34)], h1))
                        (bd1 (vP Tryd.prog (.fieldAddr 23 (.const x3) 3) 0) fun x34 =>
                          bd1 (vR Tryd.prog (.load 2 (.const x34)) 2 h1) fun x35 =>
                          bd1 (vP Tryd.prog (.binOp .gtr 2 (.const x35) (.const (.int .i64 16384)) 2) 4) fun x36 =>
                          ifV x36
                            (some (.tuple #[(.int .i64 0), (.int .i64 34)], h1))
                            (bd1 (vP Tryd.prog (.fieldAddr 23 (.const x3) 4) 0) fun x39 =>
                              bd1 (vR Tryd.prog (.load 3 (.const x39)) 3 h1) fun x40 =>
                              bd1 (vP Tryd.prog (.binOp .lss 3 (.const x40) (.const (.int .i64 0)) 3) 4) fun x41 =>
                              ifV x41
                                (some (.tuple #[(.int .i64 0), (.int .i64 34)], h1))
                                (bd1 (vP Tryd.prog (.nilCheck (.const v0)) 0) fun x45 =>
                                  bd1 (vP Tryd.prog (.fieldAddr 78 (.const x45) 1) 0) fun x46 =>
                                  bd1 (vP Tryd.prog (.fieldAddr 76 (.const x46) 0) 0) fun x47 =>
                                  bd1 (vR Tryd.prog (.load 74 (.const x47)) 74 h1) fun x48 =>
                                  bd1 (vR Tryd.prog (.call ⟨.builtin .len, #[(.const x48)], #[74]⟩) 3 h1) fun x49 =>
                                  bd1 (vP Tryd.prog (.binOp .geq 3 (.const x49) (.const (.int .i64 1000)) 3) 4) fun x50 =>
                                  ifV x50
                                    (some (.tuple #[(.int .i64 0), (.int .i64 18)], h1))
                                    (bd1 (vP Tryd.prog (.nilCheck (.const v0)) 0) fun x52 =>
                                      bd1 (vP Tryd.prog (.fieldAddr 78 (.const x52) 1) 0) fun x53 =>
                                      bd1 (vR Tryd.prog (.load 23 (.const x3)) 23 h1) fun x54 =>
                                      same (vR Tryd.prog (.load 23 (.const x3)) 23 h1) x54 <| bd2 (call 29 #[x53, x54] h1) fun x55 h2 =>
                                      some (.tuple #[x55, (.int .i64 0)], h2)))))))))) := textL T12 56 tk12 rfl (by kernel_rfl)


/-! 13: (*orpiment/attributes.Table).Open -/
def T13 : List Tab := [⟨0, [2, 2, 2, 3, 3], [], []⟩, ⟨1, [3, 1, 2, 3, 0, 0, 3, 3], [], []⟩, ⟨2, [3, 1, 3], [], []⟩, ⟨3, [3, 3, 3], [], []⟩, ⟨4, [0, 1, 0, 3, 0, 1, 0, 3, 3, 0, 1, 0, 3, 3, 0, 1, 0, 3, 3, 0, 1, 3, 0, 1, 0, 1, 3, 3, 3], [], []⟩, ⟨5, [3, 3], [], []⟩, ⟨6, [3, 0, 0, 1, 3, 0, 1, 0, 1, 3, 3], [], []⟩, ⟨7, [3, 3], [], []⟩, ⟨8, [3, 0, 1, 1, 0, 1, 2, 0, 3], [0, 1, 3, 0, 0, 16, 63, 127, 255], [0, 0, 64, 64, 0, 64, 0, 0, 0]⟩, ⟨9, [3, 3], [], []⟩, ⟨10, [0, 3], [], []⟩, ⟨11, [3, 0, 0, 0, 3, 2, 1, 0], [], []⟩, ⟨12, [3, 3], [], []⟩, ⟨13, [3, 0, 0, 0, 0, 1, 1, 0], [], []⟩, ⟨14, [3, 3], [], []⟩, ⟨15, [3, 0, 0, 0, 1, 0, 1, 0, 1, 0, 1, 0, 2, 3, 3], [0, 1, 3, 7, 0, 0, 32, 0, 128, 0, 512, 2032, 4095, 8191, 16383], [0, 0, 0, 0, 4096, 0, 4096, 0, 4096, 0, 4096, 0, 0, 0, 0]⟩]
theorem tk13 : tabsOk Tryd.prog T13 (bodyOf Tryd.prog 13) = true := by kernel_rfl
theorem f13 (call : CallF) (v0 v1 v2 v3 : Value) (h : H) : kCode Tryd.prog call (bodyOf Tryd.prog 13) ⟨#[v0, v1, v2, v3, undef, undef, undef, undef, undef, undef, undef, undef, undef, undef, undef, undef, undef, undef, undef, undef, undef, undef, undef, undef, undef, undef, undef, undef, undef, undef, undef, undef, undef, undef, undef, undef, undef, undef, undef, undef, undef, undef, undef, undef, undef, undef, undef, undef, undef, undef, undef, undef, undef, undef, undef, undef, undef, undef, undef, undef, undef, undef, undef, undef, undef, undef, undef, undef, undef, undef, undef, undef, undef, undef, undef, undef, undef, undef, undef, undef, undef, undef, undef, undef, undef, undef, undef, undef, undef, undef, undef, undef, undef, undef, undef, undef, undef, undef, undef, undef, undef, undef], []⟩ h (kEnd Tryd.prog 13) =
  bd2 (vE Tryd.prog call (.box 3 (.const v1)) 0 h) fun x5 h1 =>
  bd2 (vE Tryd.prog call (.box 26 (.const v2)) 0 h1) fun x6 h2 =>
  bd2 (vE Tryd.prog call (.box 39 (.const v3)) 0 h2) fun x7 h3 =>
  bd1 (vR Tryd.prog (.load 3 (.const x5)) 3 h3) fun x15 =>
  bd2 (call 30 #[v0, x15] h3) fun x16 h4 =>
  bd1 (vP Tryd.prog (.extract (.const x16) 0) 80) fun x17 =>
  bd1 (vP Tryd.prog (.extract (.const x16) 1) 34) fun x18 =>
  bd1 (vB Tryd.prog .neq 34 (.tmp 20) (.const (.int .i64 0)) x18 (.int .i64 0) h4) fun x21 =>
  ifV x21
    (some (.tuple #[(.int .i64 0), x18], h4))
    (bd1 (vP Tryd.prog (.fieldAddr 39 (.const x7) 1) 0) fun x24 =>
      bd1 (vR Tryd.prog (.load 3 (.const x24)) 3 h4) fun x25 =>
      bd1 (vP Tryd.prog (.binOp .lss 3 (.const x25) (.const (.int .i64 1)) 3) 4) fun x26 =>
      ifV x26
        (some (.tuple #[(.int .i64 0), (.int .i64 14)], h4))
        (bd1 (vP Tryd.prog (.fieldAddr 39 (.const x7) 1) 0) fun x28 =>
          bd1 (vR Tryd.prog (.load 3 (.const x28)) 3 h4) fun x29 =>
          bd1 (vP Tryd.prog (.binOp .gtr 3 (.const x29) (.const (.int .i64 3)) 3) 4) fun x30 =>
          ifV x30
            (some (.tuple #[(.int .i64 0), (.int .i64 14)], h4))
            (bd1 (vP Tryd.prog (.fieldAddr 39 (.const x7) 2) 0) fun x33 =>
              bd1 (vR Tryd.prog (.load 3 (.const x33)) 3 h4) fun x34 =>
              bd1 (vP Tryd.prog (.binOp .lss 3 (.const x34) (.const (.int .i64 0)) 3) 4) fun x35 =>
              ifV x35
                (some (.tuple #[(.int .i64 0), (.int .i64 14)], h4))
                (bd1 (vP Tryd.prog (.fieldAddr 39 (.const x7) 2) 0) fun x38 =>
                  bd1 (vR Tryd.prog (.load 3 (.const x38)) 3 h4) fun x39 =>
                  bd1 (vP Tryd.prog (.binOp .gtr 3 (.const x39) (.const (.int .i64 3)) 3) 4) fun x40 =>
                  ifV x40
                    (some (.tuple #[(.int .i64 0), (.int .i64 14)], h4))
                    (bd1 (vP Tryd.prog (.fieldAddr 39 (.const x7) 3) 0) fun x43 =>
                      bd1 (vR Tryd.prog (.load 4 (.const x43)) 4 h4) fun x44 =>
                      ifV x44
                        (bd1 (vP Tryd.prog (.fieldAddr 39 (.const x7) 1) 0) fun x46 =>
                          bd1 (vR Tryd.prog (.load 3 (.const x46)) 3 h4) fun x47 =>
                          bd1 (vP Tryd.prog (.binOp .and 3 (.const x47) (.const (.int .i64 2)) 3) 3) fun x48 =>
                          bd1 (vB Tryd.prog .eql 3 (.tmp 48) (.const (.int .i64 0)) x48 (.int .i64 0) h4) fun x49 =>
                          ifV x49
                            (some (.tuple #[(.int .i64 0), (.int .i64 14)], h4))
                            (bd1 (vP Tryd.prog (.nilCheck (.const x17)) 0) fun x54 =>
                              bd1 (vP Tryd.prog (.fieldAddr 23 (.const x54) 5) 0) fun x55 =>
                              bd1 (vR Tryd.prog (.load 4 (.const x55)) 4 h4) fun x56 =>
                              ifV x56
                                (bd1 (vP Tryd.prog (.fieldAddr 39 (.const x7) 1) 0) fun x58 =>
                                  bd1 (vR Tryd.prog (.load 3 (.const x58)) 3 h4) fun x59 =>
                                  bd1 (vP Tryd.prog (.binOp .and 3 (.const x59) (.const (.int .i64 2)) 3) 3) fun x60 =>
                                  bd1 (vB Tryd.prog .neq 3 (.tmp 60) (.const (.int .i64 0)) x60 (.int .i64 0) h4) fun x61 =>
                                  ifV x61
                                    (some (.tuple #[(.int .i64 0), (.int .i64 16)], h4))
                                    (bd1 (vP Tryd.prog (.nilCheck (.const x17)) 0) fun x65 =>
                                      bd1 (vR Tryd.prog (.load 23 (.const x65)) 23 h4) fun x66 =>
                                      bd1 (vR Tryd.prog (.load 26 (.const x6)) 26 h4) fun x67 =>
                                      bd1 (vP Tryd.prog (.fieldAddr 39 (.const x7) 1) 0) fun x68 =>
                                      bd1 (vR Tryd.prog (.load 3 (.const x68)) 3 h4) fun x69 =>
                                      same (vR Tryd.prog (.load 23 (.const x65)) 23 h4) x66 <| same (vR Tryd.prog (.load 26 (.const x6)) 26 h4) x67 <| same (vR Tryd.prog (.load 3 (.const x68)) 3 h4) x69 <| bd2 (call 9 #[x66, x67, x69] h4) fun x70 h5 =>
                                      bd1 (vP Tryd.prog (.unOp .not 4 (.const x70)) 4) fun x71 =>
                                      ifV x71
                                        (some (.tuple #[(.int .i64 0), (.int .i64 1)], h5))
                                        (bd1 (vP Tryd.prog (.makeFunc (.func 31) #[] #[(.const x5), (.const x7)]) 84) fun x72 =>
                                          bd1 (vP Tryd.prog (.nilCheck (.const v0)) 0) fun x74 =>
                                          bd1 (vP Tryd.prog (.fieldAddr 78 (.const x74) 0) 0) fun x75 =>
                                          bd1 (vP Tryd.prog (.fieldAddr 73 (.const x75) 0) 0) fun x76 =>
                                          bd2 (call 32 #[x76, x72] h5) fun x78 h6 =>
                                          bd1 (vR Tryd.prog (.call ⟨.builtin .len, #[(.const x78)], #[24]⟩) 3 h6) fun x79 =>
                                          bd1 (vP Tryd.prog (.binOp .gtr 3 (.const x79) (.const (.int .i64 0)) 3) 4) fun x80 =>
                                          ifV x80
                                            (some (.tuple #[(.int .i64 0), (.int .i64 5)], h6))
                                            (bd1 (vP Tryd.prog (.nilCheck (.const v0)) 0) fun x82 =>
                                              bd1 (vP Tryd.prog (.fieldAddr 78 (.const x82) 0) 0) fun x83 =>
                                              bd1 (vP Tryd.prog (.fieldAddr 73 (.const x83) 0) 0) fun x84 =>
                                              bd1 (vP Tryd.prog (.fieldAddr 71 (.const x84) 0) 0) fun x85 =>
                                              bd1 (vR Tryd.prog (.load 69 (.const x85)) 69 h6) fun x86 =>
                                              bd1 (vR Tryd.prog (.call ⟨.builtin .len, #[(.const x86)], #[69]⟩) 3 h6) fun x87 =>
                                              bd1 (vP Tryd.prog (.binOp .geq 3 (.const x87) (.const (.int .i64 200)) 3) 4) fun x88 =>
                                              ifV x88
                                                (some (.tuple #[(.int .i64 0), (.int .i64 18)], h6))
                                                (bd1 (vP Tryd.prog (.nilCheck (.const v0)) 0) fun x90 =>
                                                  bd1 (vP Tryd.prog (.fieldAddr 78 (.const x90) 0) 0) fun x91 =>
                                                  bd1 (vP Tryd.prog (.fieldAddr 73 (.const x91) 0) 0) fun x92 =>
                                                  bd1 (vR Tryd.prog (.load 3 (.const x5)) 3 h6) fun x93 =>
                                                  bd1 (vP Tryd.prog (.fieldAddr 39 (.const x7) 1) 0) fun x94 =>
                                                  bd1 (vR Tryd.prog (.load 3 (.const x94)) 3 h6) fun x95 =>
                                                  bd1 (vP Tryd.prog (.fieldAddr 39 (.const x7) 2) 0) fun x96 =>
                                                  bd1 (vR Tryd.prog (.load 3 (.const x96)) 3 h6) fun x97 =>
                                                  bd1 (vP Tryd.prog (.fieldAddr 39 (.const x7) 3) 0) fun x98 =>
                                                  bd1 (vR Tryd.prog (.load 4 (.const x98)) 4 h6) fun x99 =>
                                                  bd1 (vP Tryd.prog (.build 39 #[(0, (.const x93)), (1, (.const x95)), (2, (.const x97)), (3, (.const x99)), (5, (.const (.int .i64 1)))]) 39) fun x100 =>
                                                  same (vR Tryd.prog (.load 3 (.const x5)) 3 h6) x93 <| same (vR Tryd.prog (.load 3 (.const x94)) 3 h6) x95 <| same (vR Tryd.prog (.load 3 (.const x96)) 3 h6) x97 <| same (vR Tryd.prog (.load 4 (.const x98)) 4 h6) x99 <| bd2 (call 33 #[x92, x100] h6) fun x101 h7 =>
                                                  some (.tuple #[x101, (.int .i64 0)], h7))))))
                                (bd1 (vP Tryd.prog (.nilCheck (.const x17)) 0) fun x65 =>
                                  bd1 (vR Tryd.prog (.load 23 (.const x65)) 23 h4) fun x66 =>
                                  bd1 (vR Tryd.prog (.load 26 (.const x6)) 26 h4) fun x67 =>
                                  bd1 (vP Tryd.prog (.fieldAddr 39 (.const x7) 1) 0) fun x68 =>
                                  bd1 (vR Tryd.prog (.load 3 (.const x68)) 3 h4) fun x69 =>
                                  same (vR Tryd.prog (.load 23 (.const x65)) 23 h4) x66 <| same (vR Tryd.prog (.load 26 (.const x6)) 26 h4) x67 <| same (vR Tryd.prog (.load 3 (.const x68)) 3 h4) x69 <| bd2 (call 9 #[x66, x67, x69] h4) fun x70 h5 =>
                                  bd1 (vP Tryd.prog (.unOp .not 4 (.const x70)) 4) fun x71 =>
                                  ifV x71
                                    (some (.tuple #[(.int .i64 0), (.int .i64 1)], h5))
                                    (bd1 (vP Tryd.prog (.makeFunc (.func 31) #[] #[(.const x5), (.const x7)]) 84) fun x72 =>
                                      bd1 (vP Tryd.prog (.nilCheck (.const v0)) 0) fun x74 =>
                                      bd1 (vP Tryd.prog (.fieldAddr 78 (.const x74) 0) 0) fun x75 =>
                                      bd1 (vP Tryd.prog (.fieldAddr 73 (.const x75) 0) 0) fun x76 =>
                                      bd2 (call 32 #[x76, x72] h5) fun x78 h6 =>
                                      bd1 (vR Tryd.prog (.call ⟨.builtin .len, #[(.const x78)], #[24]⟩) 3 h6) fun x79 =>
                                      bd1 (vP Tryd.prog (.binOp .gtr 3 (.const x79) (.const (.int .i64 0)) 3) 4) fun x80 =>
                                      ifV x80
                                        (some (.tuple #[(.int .i64 0), (.int .i64 5)], h6))
                                        (bd1 (vP Tryd.prog (.nilCheck (.const v0)) 0) fun x82 =>
                                          bd1 (vP Tryd.prog (.fieldAddr 78 (.const x82) 0) 0) fun x83 =>
                                          bd1 (vP Tryd.prog (.fieldAddr 73 (.const x83) 0) 0) fun x84 =>
                                          bd1 (vP Tryd.prog (.fieldAddr 71 (.const x84) 0) 0) fun x85 =>
                                          bd1 (vR Tryd.prog (.load 69 (.const x85)) 69 h6) fun x86 =>
                                          bd1 (vR Tryd.prog (.call ⟨.builtin .len, #[(.const x86)], #[69]⟩) 3 h6) fun x87 =>
                                          bd1 (vP Tryd.prog (.binOp .geq 3 (.const x87) (.const (.int .i64 200)) 3) 4) fun x88 =>
                                          ifV x88
                                            (some (.tuple #[(.int .i64 0), (.int .i64 18)], h6))
                                            (bd1 (vP Tryd.prog (.nilCheck (.const v0)) 0) fun x90 =>
                                              bd1 (vP Tryd.prog (.fieldAddr 78 (.const x90) 0) 0) fun x91 =>
                                              bd1 (vP Tryd.prog (.fieldAddr 73 (.const x91) 0) 0) fun x92 =>
                                              bd1 (vR Tryd.prog (.load 3 (.const x5)) 3 h6) fun x93 =>
                                              bd1 (vP Tryd.prog (.fieldAddr 39 (.const x7) 1) 0) fun x94 =>
                                              bd1 (vR Tryd.prog (.load 3 (.const x94)) 3 h6) fun x95 =>
                                              bd1 (vP Tryd.prog (.fieldAddr 39 (.const x7) 2) 0) fun x96 =>
                                              bd1 (vR Tryd.prog (.load 3 (.const x96)) 3 h6) fun x97 =>
                                              bd1 (vP Tryd.prog (.fieldAddr 39 (.const x7) 3) 0) fun x98 =>
                                              bd1 (vR Tryd.prog (.load 4 (.const x98)) 4 h6) fun x99 =>
                                              bd1 (vP Tryd.prog (.build 39 #[(0, (.const x93)), (1, (.const x95)), (2, (.const x97)), (3, (.const x99)), (5, (.const (.int .i64 1)))]) 39) fun x100 =>
                                              same (vR Tryd.prog (.load 3 (.const x5)) 3 h6) x93 <| same (vR Tryd.prog (.load 3 (.const x94)) 3 h6) x95 <| same (vR Tryd.prog (.load 3 (.const x96)) 3 h6) x97 <| same (vR Tryd.prog (.load 4 (.const x98)) 4 h6) x99 <| bd2 (call 33 #[x92, x100] h6) fun x101 h7 =>
                                              some (.tuple #[x101, (.int .i64 0)], h7)))))))
                        (bd1 (vP Tryd.prog (.nilCheck (.const x17)) 0) fun x54 =>
                          bd1 (vP Tryd.prog (.fieldAddr 23 (.const x54) 5) 0) fun x55 =>
                          bd1 (vR Tryd.prog (.load 4 (.const x55)) 4 h4) fun x56 =>
                          ifV x56
                            (bd1 (vP Tryd.prog (.fieldAddr 39 (.const x7) 1) 0) fun x58 =>
                              bd1 (vR Tryd.prog (.load 3 (.const x58)) 3 h4) fun x59 =>
                              bd1 (vP Tryd.prog (.binOp .and 3 (.const x59) (.const (.int .i64 2)) 3) 3) fun x60 =>
                              bd1 (vB Tryd.prog .neq 3 (.tmp 60) (.const (.int .i64 0)) x60 (.int .i64 0) h4) fun x61 =>
                              ifV x61
                                (some (.tuple #[(.int .i64 0), (.int .i64 16)], h4))
                                (bd1 (vP Tryd.prog (.nilCheck (.const x17)) 0) fun x65 =>
                                  bd1 (vR Tryd.prog (.load 23 (.const x65)) 23 h4) fun x66 =>
                                  bd1 (vR Tryd.prog (.load 26 (.const x6)) 26 h4) fun x67 =>
                                  bd1 (vP Tryd.prog (.fieldAddr 39 (.const x7) 1) 0) fun x68 =>
                                  bd1 (vR Tryd.prog (.load 3 (.const x68)) 3 h4) fun x69 =>
                                  same (vR Tryd.prog (.load 23 (.const x65)) 23 h4) x66 <| same (vR Tryd.prog (.load 26 (.const x6)) 26 h4) x67 <| same (vR Tryd.prog (.load 3 (.const x68)) 3 h4) x69 <| bd2 (call 9 #[x66, x67, x69] h4) fun x70 h5 =>
                                  bd1 (vP Tryd.prog (.unOp .not 4 (.const x70)) 4) fun x71 =>
                                  ifV x71
                                    (some (.tuple #[(.int .i64 0), (.int .i64 1)], h5))
                                    (bd1 (vP Tryd.prog (.makeFunc (.func 31) #[] #[(.const x5), (.const x7)]) 84) fun x72 =>
                                      bd1 (vP Tryd.prog (.nilCheck (.const v0)) 0) fun x74 =>
                                      bd1 (vP Tryd.prog (.fieldAddr 78 (.const x74) 0) 0) fun x75 =>
                                      bd1 (vP Tryd.prog (.fieldAddr 73 (.const x75) 0) 0) fun x76 =>
                                      bd2 (call 32 #[x76, x72] h5) fun x78 h6 =>
                                      bd1 (vR Tryd.prog (.call ⟨.builtin .len, #[(.const x78)], #[24]⟩) 3 h6) fun x79 =>
                                      bd1 (vP Tryd.prog (.binOp .gtr 3 (.const x79) (.const (.int .i64 0)) 3) 4) fun x80 =>
                                      ifV x80
                                        (some (.tuple #[(.int .i64 0), (.int .i64 5)], h6))
                                        (bd1 (vP Tryd.prog (.nilCheck (.const v0)) 0) fun x82 =>
                                          bd1 (vP Tryd.prog (.fieldAddr 78 (.const x82) 0) 0) fun x83 =>
                                          bd1 (vP Tryd.prog (.fieldAddr 73 (.const x83) 0) 0) fun x84 =>
                                          bd1 (vP Tryd.prog (.fieldAddr 71 (.const x84) 0) 0) fun x85 =>
                                          bd1 (vR Tryd.prog (.load 69 (.const x85)) 69 h6) fun x86 =>
                                          bd1 (vR Tryd.prog (.call ⟨.builtin .len, #[(.const x86)], #[69]⟩) 3 h6) fun x87 =>
                                          bd1 (vP Tryd.prog (.binOp .geq 3 (.const x87) (.const (.int .i64 200)) 3) 4) fun x88 =>
                                          ifV x88
                                            (some (.tuple #[(.int .i64 0), (.int .i64 18)], h6))
                                            (bd1 (vP Tryd.prog (.nilCheck (.const v0)) 0) fun x90 =>
                                              bd1 (vP Tryd.prog (.fieldAddr 78 (.const x90) 0) 0) fun x91 =>
                                              bd1 (vP Tryd.prog (.fieldAddr 73 (.const x91) 0) 0) fun x92 =>
                                              bd1 (vR Tryd.prog (.load 3 (.const x5)) 3 h6) fun x93 =>
                                              bd1 (vP Tryd.prog (.fieldAddr 39 (.const x7) 1) 0) fun x94 =>
                                              bd1 (vR Tryd.prog (.load 3 (.const x94)) 3 h6) fun x95 =>
                                              bd1 (vP Tryd.prog (.fieldAddr 39 (.const x7) 2) 0) fun x96 =>
                                              bd1 (vR Tryd.prog (.load 3 (.const x96)) 3 h6) fun x97 =>
                                              bd1 (vP Tryd.prog (.fieldAddr 39 (.const x7) 3) 0) fun x98 =>
                                              bd1 (vR Tryd.prog (.load 4 (.const x98)) 4 h6) fun x99 =>
                                              bd1 (vP Tryd.prog (.build 39 #[(0, (.const x93)), (1, (.const x95)), (2, (.const x97)), (3, (.const x99)), (5, (.const (.int .i64 1)))]) 39) fun x100 =>
                                              same (vR Tryd.prog (.load 3 (.const x5)) 3 h6) x93 <| same (vR Tryd.prog (.load 3 (.const x94)) 3 h6) x95 <| same (vR Tryd.prog (.load 3 (.const x96)) 3 h6) x97 <| same (vR Tryd.prog (.load 4 (.const x98)) 4 h6) x99 <| bd2 (call 33 #[x92, x100] h6) fun x101 h7 =>
                                              some (.tuple #[x101, (.int .i64 0)], h7))))))
                            (bd1 (vP Tryd.prog (.nilCheck (.const x17)) 0) fun x65 =>
                              bd1 (vR Tryd.prog (.load 23 (.const x65)) 23 h4) fun x66 =>
                              bd1 (vR Tryd.prog (.load 26 (.const x6)) 26 h4) fun x67 =>
                              bd1 (vP Tryd.prog (.fieldAddr 39 (.const x7) 1) 0) fun x68 =>
                              bd1 (vR Tryd.prog (.load 3 (.const x68)) 3 h4) fun x69 =>
                              same (vR Tryd.prog (.load 23 (.const x65)) 23 h4) x66 <| same (vR Tryd.prog (.load 26 (.const x6)) 26 h4) x67 <| same (vR Tryd.prog (.load 3 (.const x68)) 3 h4) x69 <| bd2 (call 9 #[x66, x67, x69] h4) fun x70 h5 =>
                              bd1 (vP Tryd.prog (.unOp .not 4 (.const x70)) 4) fun x71 =>
                              ifV x71
                                (some (.tuple #[(.int .i64 0), (.int .i64 1)], h5))
                                (bd1 (vP Tryd.prog (.makeFunc (.func 31) #[] #[(.const x5), (.const x7)]) 84) fun x72 =>
                                  bd1 (vP Tryd.prog (.nilCheck (.const v0)) 0) fun x74 =>
                                  bd1 (vP Tryd.prog (.fieldAddr 78 (.const x74) 0) 0) fun x75 =>
                                  bd1 (vP Tryd.prog (.fieldAddr 73 (.const x75) 0) 0) fun x76 =>
                                  bd2 (call 32 #[x76, x72] h5) fun x78 h6 =>
                                  bd1 (vR Tryd.prog (.call ⟨.builtin .len, #[(.const x78)], #[24]⟩) 3 h6) fun x79 =>
                                  bd1 (vP Tryd.prog (.binOp .gtr 3 (.const x79) (.const (.int .i64 0)) 3) 4) fun x80 =>
                                  ifV x80
                                    (some (.tuple #[(.int .i64 0), (.int .i64 5)], h6))
                                    (bd1 (vP Tryd.prog (.nilCheck (.const v0)) 0) fun x82 =>
                                      bd1 (vP Tryd.prog (.fieldAddr 78 (.const x82) 0) 0) fun x83 =>
                                      bd1 (vP Tryd.prog (.fieldAddr 73 (.const x83) 0) 0) fun x84 =>
                                      bd1 (vP Tryd.prog (.fieldAddr 71 (.const x84) 0) 0) fun x85 =>
                                      bd1 (vR Tryd.prog (.load 69 (.const x85)) 69 h6) fun x86 =>
                                      bd1 (vR Tryd.prog (.call ⟨.builtin .len, #[(.const x86)], #[69]⟩) 3 h6) fun x87 =>
                                      bd1 (vP Tryd.prog (.binOp .geq 3 (.const x87) (.const (.int .i64 200)) 3) 4) fun x88 =>
                                      ifV x88
                                        (some (.tuple #[(.int .i64 0), (.int .i64 18)], h6))
                                        (bd1 (vP Tryd.prog (.nilCheck (.const v0)) 0) fun x90 =>
                                          bd1 (vP Tryd.prog (.fieldAddr 78 (.const x90) 0) 0) fun x91 =>
                                          bd1 (vP Tryd.prog (.fieldAddr 73 (.const x91) 0) 0) fun x92 =>
                                          bd1 (vR Tryd.prog (.load 3 (.const x5)) 3 h6) fun x93 =>
                                          bd1 (vP Tryd.prog (.fieldAddr 39 (.const x7) 1) 0) fun x94 =>
                                          bd1 (vR Tryd.prog (.load 3 (.const x94)) 3 h6) fun x95 =>
                                          bd1 (vP Tryd.prog (.fieldAddr 39 (.const x7) 2) 0) fun x96 =>
                                          bd1 (vR Tryd.prog (.load 3 (.const x96)) 3 h6) fun x97 =>
                                          bd1 (vP Tryd.prog (.fieldAddr 39 (.const x7) 3) 0) fun x98 =>
                                          bd1 (vR Tryd.prog (.load 4 (.const x98)) 4 h6) fun x99 =>
                                          bd1 (vP Tryd.prog (.build 39 #[(0, (.const x93)), (1, (.const x95)), (2, (.const x97)), (3, (.const x99)), (5, (.const (.int .i64 1)))]) 39) fun x100 =>
                                          same (vR Tryd.prog (.load 3 (.const x5)) 3 h6) x93 <| same (vR Tryd.prog (.load 3 (.const x94)) 3 h6) x95 <| same (vR Tryd.prog (.load 3 (.const x96)) 3 h6) x97 <| same (vR Tryd.prog (.load 4 (.const x98)) 4 h6) x99 <| bd2 (call 33 #[x92, x100] h6) fun x101 h7 =>
                                          some (.tuple #[x101, (.int .i64 0)], h7))))))))))) := textL T13 102 tk13 rfl (by kernel_rfl)


/-! 14: (*orpiment/attributes.Table).Write -/
def T14 : List Tab := [⟨0, [3, 3, 3], [], []⟩, ⟨1, [3, 3, 3, 2, 3, 0, 0, 0, 3, 3, 3], [], []⟩, ⟨2, [3, 1], [], []⟩, ⟨3, [3, 3, 3, 3], [], []⟩, ⟨4, [3, 0, 0, 1, 3], [], []⟩, ⟨5, [3, 0, 0, 1], [], []⟩, ⟨6, [3, 0, 0, 1, 3], [], []⟩, ⟨7, [3, 3, 0, 0, 0, 3], [], []⟩, ⟨8, [3, 0, 3, 3, 1, 3], [], []⟩, ⟨9, [3, 3, 3], [], []⟩, ⟨10, [3, 3, 3, 0, 0, 0, 2], [], []⟩, ⟨11, [3, 3, 0, 0, 1, 3, 0, 0, 1, 0, 0, 0, 2], [0, 0, 2, 6, 14, 0, 32, 96, 224, 510, 1023, 2047, 4095], [0, 0, 0, 0, 4096, 0, 0, 0, 4096, 0, 0, 0, 0]⟩, ⟨12, [3, 3, 3, 3, 3], [], []⟩]
theorem tk14 : tabsOk Tryd.prog T14 (bodyOf Tryd.prog 14) = true := by kernel_rfl
theorem f14 (call : CallF) (v0 v1 v2 : Value) (h : H) : kCode Tryd.prog call (bodyOf Tryd.prog 14) ⟨#[v0, v1, v2, undef, undef, undef, undef, undef, undef, undef, undef, undef, undef, undef, undef, undef, undef, undef, undef, undef, undef, undef, undef, undef, undef, undef, undef, undef, undef, undef, undef, undef, undef, undef, undef, undef, undef, undef, undef, undef, undef, undef, undef, undef, undef, undef, undef, undef, undef, undef, undef, undef, undef, undef, undef, undef, undef, undef, undef, undef, undef, undef, undef, undef, undef, undef, undef, undef], []⟩ h (kEnd Tryd.prog 14) =
  bd2 (call 34 #[v0, v1, v2, (.int .i64 2)] h) fun x18 h1 =>
  bd1 (vP Tryd.prog (.extract (.const x18) 0) 83) fun x19 =>
  bd1 (vP Tryd.prog (.extract (.const x18) 1) 80) fun x20 =>
  bd1 (vP Tryd.prog (.extract (.const x18) 2) 34) fun x21 =>
  bd1 (vB Tryd.prog .neq 34 (.tmp 22) (.const (.int .i64 0)) x21 (.int .i64 0) h1) fun x23 =>
  ifV x23
    (some (.tuple #[(.int .i64 0), (.int .i64 0), x21], h1))
    (bd1 (vP Tryd.prog (.nilCheck (.const x19)) 0) fun x26 =>
      bd1 (vP Tryd.prog (.fieldAddr 39 (.const x26) 4) 0) fun x27 =>
      bd1 (vR Tryd.prog (.load 2 (.const x27)) 2 h1) fun x28 =>
      bd1 (vP Tryd.prog (.nilCheck (.const x19)) 0) fun x30 =>
      bd1 (vP Tryd.prog (.fieldAddr 39 (.const x30) 3) 0) fun x31 =>
      bd1 (vR Tryd.prog (.load 4 (.const x31)) 4 h1) fun x32 =>
      ifV x32
        (bd1 (vP Tryd.prog (.nilCheck (.const x20)) 0) fun x34 =>
          bd1 (vP Tryd.prog (.fieldAddr 23 (.const x34) 3) 0) fun x35 =>
          bd1 (vR Tryd.prog (.load 2 (.const x35)) 2 h1) fun x36 =>
          bd1 (vP Tryd.prog (.binOp .sub 2 (.const (.int .i64 16384)) (.const x36) 2) 2) fun x39 =>
          bd1 (vP Tryd.prog (.call ⟨.builtin .min, #[(.const v2), (.const x39)], #[2, 2]⟩) 2) fun x40 =>
          bd1 (vP Tryd.prog (.call ⟨.builtin .max, #[(.const x40), (.const (.int .i64 0))], #[2, 2]⟩) 2) fun x41 =>
          bd1 (vP Tryd.prog (.binOp .gtr 3 (.const v2) (.const (.int .i64 0)) 3) 4) fun x43 =>
          ifV x43
            (bd1 (vB Tryd.prog .eql 3 (.tmp 45) (.const (.int .i64 0)) x41 (.int .i64 0) h1) fun x46 =>
              ifV x46
                (some (.tuple #[(.int .i64 0), (.int .i64 0), (.int .i64 25)], h1))
                (bd1 (vP Tryd.prog (.binOp .add 2 (.const x36) (.const x41) 2) 2) fun x51 =>
                  bd1 (vP Tryd.prog (.nilCheck (.const x19)) 0) fun x52 =>
                  bd1 (vP Tryd.prog (.fieldAddr 39 (.const x52) 4) 0) fun x53 =>
                  bd2 (vE Tryd.prog call (.store 2 (.const x53) (.const x51)) 0 h1) fun _ h2 =>
                  bd1 (vP Tryd.prog (.nilCheck (.const x20)) 0) fun x56 =>
                  bd1 (vP Tryd.prog (.fieldAddr 23 (.const x56) 3) 0) fun x57 =>
                  bd1 (vR Tryd.prog (.load 2 (.const x57)) 2 h2) fun x58 =>
                  bd1 (vP Tryd.prog (.nilCheck (.const x19)) 0) fun x60 =>
                  bd1 (vP Tryd.prog (.fieldAddr 39 (.const x60) 4) 0) fun x61 =>
                  bd1 (vR Tryd.prog (.load 2 (.const x61)) 2 h2) fun x62 =>
                  bd1 (vP Tryd.prog (.call ⟨.builtin .max, #[(.const x58), (.const x62)], #[2, 2]⟩) 2) fun x63 =>
                  bd1 (vP Tryd.prog (.nilCheck (.const x20)) 0) fun x64 =>
                  bd1 (vP Tryd.prog (.fieldAddr 23 (.const x64) 3) 0) fun x65 =>
                  same (vR Tryd.prog (.load 2 (.const x57)) 2 h2) x58 <| same (vR Tryd.prog (.load 2 (.const x61)) 2 h2) x62 <| bd2 (vE Tryd.prog call (.store 2 (.const x65) (.const x63)) 0 h2) fun _ h3 =>
                  some (.tuple #[x36, x41, (.int .i64 0)], h3)))
            (bd1 (vP Tryd.prog (.binOp .add 2 (.const x36) (.const x41) 2) 2) fun x51 =>
              bd1 (vP Tryd.prog (.nilCheck (.const x19)) 0) fun x52 =>
              bd1 (vP Tryd.prog (.fieldAddr 39 (.const x52) 4) 0) fun x53 =>
              bd2 (vE Tryd.prog call (.store 2 (.const x53) (.const x51)) 0 h1) fun _ h2 =>
              bd1 (vP Tryd.prog (.nilCheck (.const x20)) 0) fun x56 =>
              bd1 (vP Tryd.prog (.fieldAddr 23 (.const x56) 3) 0) fun x57 =>
              bd1 (vR Tryd.prog (.load 2 (.const x57)) 2 h2) fun x58 =>
              bd1 (vP Tryd.prog (.nilCheck (.const x19)) 0) fun x60 =>
              bd1 (vP Tryd.prog (.fieldAddr 39 (.const x60) 4) 0) fun x61 =>
              bd1 (vR Tryd.prog (.load 2 (.const x61)) 2 h2) fun x62 =>
              bd1 (vP Tryd.prog (.call ⟨.builtin .max, #[(.const x58), (.const x62)], #[2, 2]⟩) 2) fun x63 =>
              bd1 (vP Tryd.prog (.nilCheck (.const x20)) 0) fun x64 =>
              bd1 (vP Tryd.prog (.fieldAddr 23 (.const x64) 3) 0) fun x65 =>
              same (vR Tryd.prog (.load 2 (.const x57)) 2 h2) x58 <| same (vR Tryd.prog (.load 2 (.const x61)) 2 h2) x62 <| bd2 (vE Tryd.prog call (.store 2 (.const x65) (.const x63)) 0 h2) fun _ h3 =>
              some (.tuple #[x36, x41, (.int .i64 0)], h3)))
        (bd1 (vP Tryd.prog (.binOp .sub 2 (.const (.int .i64 16384)) (.const x28) 2) 2) fun x39 =>
          bd1 (vP Tryd.prog (.call ⟨.builtin .min, #[(.const v2), (.const x39)], #[2, 2]⟩) 2) fun x40 =>
          bd1 (vP Tryd.prog (.call ⟨.builtin .max, #[(.const x40), (.const (.int .i64 0))], #[2, 2]⟩) 2) fun x41 =>
          bd1 (vP Tryd.prog (.binOp .gtr 3 (.const v2) (.const (.int .i64 0)) 3) 4) fun x43 =>
          ifV x43
            (bd1 (vB Tryd.prog .eql 3 (.tmp 45) (.const (.int .i64 0)) x41 (.int .i64 0) h1) fun x46 =>
              ifV x46
                (some (.tuple #[(.int .i64 0), (.int .i64 0), (.int .i64 25)], h1))
                (bd1 (vP Tryd.prog (.binOp .add 2 (.const x28) (.const x41) 2) 2) fun x51 =>
                  bd1 (vP Tryd.prog (.nilCheck (.const x19)) 0) fun x52 =>
                  bd1 (vP Tryd.prog (.fieldAddr 39 (.const x52) 4) 0) fun x53 =>
                  bd2 (vE Tryd.prog call (.store 2 (.const x53) (.const x51)) 0 h1) fun _ h2 =>
                  bd1 (vP Tryd.prog (.nilCheck (.const x20)) 0) fun x56 =>
                  bd1 (vP Tryd.prog (.fieldAddr 23 (.const x56) 3) 0) fun x57 =>
                  bd1 (vR Tryd.prog (.load 2 (.const x57)) 2 h2) fun x58 =>
                  bd1 (vP Tryd.prog (.nilCheck (.const x19)) 0) fun x60 =>
                  bd1 (vP Tryd.prog (.fieldAddr 39 (.const x60) 4) 0) fun x61 =>
                  bd1 (vR Tryd.prog (.load 2 (.const x61)) 2 h2) fun x62 =>
                  bd1 (vP Tryd.prog (.call ⟨.builtin .max, #[(.const x58), (.const x62)], #[2, 2]⟩) 2) fun x63 =>
                  bd1 (vP Tryd.prog (.nilCheck (.const x20)) 0) fun x64 =>
                  bd1 (vP Tryd.prog (.fieldAddr 23 (.const x64) 3) 0) fun x65 =>
                  same (vR Tryd.prog (.load 2 (.const x57)) 2 h2) x58 <| same (vR Tryd.prog (.load 2 (.const x61)) 2 h2) x62 <| bd2 (vE Tryd.prog call (.store 2 (.const x65) (.const x63)) 0 h2) fun _ h3 =>
                  some (.tuple #[x28, x41, (.int .i64 0)], h3)))
            (bd1 (vP Tryd.prog (.binOp .add 2 (.const x28) (.const x41) 2) 2) fun x51 =>
              bd1 (vP Tryd.prog (.nilCheck (.const x19)) 0) fun x52 =>
              bd1 (vP Tryd.prog (.fieldAddr 39 (.const x52) 4) 0) fun x53 =>
              bd2 (vE Tryd.prog call (.store 2 (.const x53) (.const x51)) 0 h1) fun _ h2 =>
              bd1 (vP Tryd.prog (.nilCheck (.const x20)) 0) fun x56 =>
              bd1 (vP Tryd.prog (.fieldAddr 23 (.const x56) 3) 0) fun x57 =>
              bd1 (vR Tryd.prog (.load 2 (.const x57)) 2 h2) fun x58 =>
              bd1 (vP Tryd.prog (.nilCheck (.const x19)) 0) fun x60 =>
              bd1 (vP Tryd.prog (.fieldAddr 39 (.const x60) 4) 0) fun x61 =>
              bd1 (vR Tryd.prog (.load 2 (.const x61)) 2 h2) fun x62 =>
              bd1 (vP Tryd.prog (.call ⟨.builtin .max, #[(.const x58), (.const x62)], #[2, 2]⟩) 2) fun x63 =>
              bd1 (vP Tryd.prog (.nilCheck (.const x20)) 0) fun x64 =>
              bd1 (vP Tryd.prog (.fieldAddr 23 (.const x64) 3) 0) fun x65 =>
              same (vR Tryd.prog (.load 2 (.const x57)) 2 h2) x58 <| same (vR Tryd.prog (.load 2 (.const x61)) 2 h2) x62 <| bd2 (vE Tryd.prog call (.store 2 (.const x65) (.const x63)) 0 h2) fun _ h3 =>
              some (.tuple #[x28, x41, (.int .i64 0)], h3)))) := textL T14 68 tk14 rfl (by kernel_rfl)


/-! 15: (*orpiment/attributes.Table).Attr -/
def T15 : List Tab := [⟨0, [2, 3], [], []⟩, ⟨1, [3, 3, 2, 3, 0, 0, 3, 3], [], []⟩, ⟨2, [3, 1], [], []⟩, ⟨3, [0, 3, 2, 3], [], []⟩, ⟨4, [3, 0, 1, 2, 3], [], []⟩]
theorem tk15 : tabsOk Tryd.prog T15 (bodyOf Tryd.prog 15) = true := by kernel_rfl
theorem f15 (call : CallF) (v0 v1 : Value) (h : H) : kCode Tryd.prog call (bodyOf Tryd.prog 15) ⟨#[v0, v1, undef, undef, undef, undef, undef, undef, undef, undef, undef, undef, undef, undef, undef, undef, undef, undef, undef, undef, undef], []⟩ h (kEnd Tryd.prog 15) =
  bd2 (vE Tryd.prog call (.alloc 23) 0 h) fun x4 h1 =>
  bd2 (call 30 #[v0, v1] h1) fun x11 h2 =>
  bd1 (vP Tryd.prog (.extract (.const x11) 0) 80) fun x12 =>
  bd1 (vP Tryd.prog (.extract (.const x11) 1) 34) fun x13 =>
  bd1 (vB Tryd.prog .neq 34 (.tmp 14) (.const (.int .i64 0)) x13 (.int .i64 0) h2) fun x15 =>
  ifV x15
    (bd1 (vP Tryd.prog (.build 23 #[]) 23) fun x16 =>
      bd2 (vE Tryd.prog call (.store 23 (.const x4) (.const x16)) 0 h2) fun _ h3 =>
      bd1 (vL Tryd.prog 23 x4 h3) fun r0 => some (.tuple #[r0, x13], h3))
    (bd1 (vP Tryd.prog (.nilCheck (.const x12)) 0) fun x19 =>
      bd1 (vR Tryd.prog (.load 23 (.const x19)) 23 h2) fun x20 =>
      bd2 (vE Tryd.prog call (.store 23 (.const x4) (.const x20)) 0 h2) fun _ h3 =>
      bd1 (vL Tryd.prog 23 x4 h3) fun r0 => some (.tuple #[r0, (.int .i64 0)], h3)) := textL T15 21 tk15 rfl (by kernel_rfl)


/-! 19: (*orpiment/attributes.Table).Objects -/
def T19 : List Tab := [⟨0, [3], [], []⟩, ⟨1, [3, 1], [], []⟩, ⟨2, [3], [], []⟩, ⟨3, [3, 0, 0, 2, 3], [], []⟩]
theorem tk19 : tabsOk Tryd.prog T19 (bodyOf Tryd.prog 19) = true := by kernel_rfl
theorem f19 (call : CallF) (v0 : Value) (h : H) : kCode Tryd.prog call (bodyOf Tryd.prog 19) ⟨#[v0, undef, undef, undef, undef, undef, undef, undef, undef], []⟩ h (kEnd Tryd.prog 19) =
  bd1 (vB Tryd.prog .eql 32 (.tmp 3) (.const (.pointer none)) v0 (.pointer none) h) fun x4 =>
  ifV x4
    (some ((.slice none 0 0), h))
    (bd1 (vP Tryd.prog (.nilCheck (.const v0)) 0) fun x6 =>
      bd1 (vP Tryd.prog (.fieldAddr 78 (.const x6) 1) 0) fun x7 =>
      bd2 (call 58 #[x7, (.func (.func 59) #[] #[])] h) fun x8 h1 =>
      some (x8, h1)) := textL T19 9 tk19 rfl (by kernel_rfl)


/-! 20: (*orpiment/attributes.Table).Opens -/
def T20 : List Tab := [⟨0, [2, 3], [], []⟩, ⟨1, [3, 1], [], []⟩, ⟨2, [3], [], []⟩, ⟨3, [3, 0, 0, 0, 0, 2, 3], [], []⟩]
theorem tk20 : tabsOk Tryd.prog T20 (bodyOf Tryd.prog 20) = true := by kernel_rfl
theorem f20 (call : CallF) (v0 v1 : Value) (h : H) : kCode Tryd.prog call (bodyOf Tryd.prog 20) ⟨#[v0, v1, undef, undef, undef, undef, undef, undef, undef, undef, undef, undef, undef], []⟩ h (kEnd Tryd.prog 20) =
  bd2 (vE Tryd.prog call (.box 3 (.const v1)) 0 h) fun x3 h1 =>
  bd1 (vB Tryd.prog .eql 32 (.tmp 5) (.const (.pointer none)) v0 (.pointer none) h1) fun x6 =>
  ifV x6
    (some ((.slice none 0 0), h1))
    (bd1 (vP Tryd.prog (.nilCheck (.const v0)) 0) fun x8 =>
      bd1 (vP Tryd.prog (.fieldAddr 78 (.const x8) 0) 0) fun x9 =>
      bd1 (vP Tryd.prog (.fieldAddr 73 (.const x9) 0) 0) fun x10 =>
      bd1 (vP Tryd.prog (.makeFunc (.func 60) #[] #[(.const x3)]) 84) fun x11 =>
      bd2 (call 32 #[x10, x11] h1) fun x12 h2 =>
      some (x12, h2)) := textL T20 13 tk20 rfl (by kernel_rfl)


/-! 21: (*orpiment/attributes.Table).Block -/
def T21 : List Tab := [⟨0, [2, 3], [], []⟩, ⟨1, [3, 3, 2, 3, 0, 0, 0, 3, 3, 3], [], []⟩, ⟨2, [3, 1], [], []⟩, ⟨3, [0, 3, 2, 3], [], []⟩, ⟨4, [3, 0, 1, 2, 3], [], []⟩]
theorem tk21 : tabsOk Tryd.prog T21 (bodyOf Tryd.prog 21) = true := by kernel_rfl
theorem f21 (call : CallF) (v0 v1 : Value) (h : H) : kCode Tryd.prog call (bodyOf Tryd.prog 21) ⟨#[v0, v1, undef, undef, undef, undef, undef, undef, undef, undef, undef, undef, undef, undef, undef, undef, undef, undef, undef, undef, undef, undef, undef], []⟩ h (kEnd Tryd.prog 21) =
  bd2 (vE Tryd.prog call (.alloc 39) 0 h) fun x4 h1 =>
  bd2 (call 61 #[v0, v1] h1) fun x12 h2 =>
  bd1 (vP Tryd.prog (.extract (.const x12) 0) 83) fun x13 =>
  bd1 (vP Tryd.prog (.extract (.const x12) 1) 80) fun x14 =>
  bd1 (vP Tryd.prog (.extract (.const x12) 2) 34) fun x15 =>
  bd1 (vB Tryd.prog .neq 34 (.tmp 16) (.const (.int .i64 0)) x15 (.int .i64 0) h2) fun x17 =>
  ifV x17
    (bd1 (vP Tryd.prog (.build 39 #[]) 39) fun x18 =>
      bd2 (vE Tryd.prog call (.store 39 (.const x4) (.const x18)) 0 h2) fun _ h3 =>
      bd1 (vL Tryd.prog 39 x4 h3) fun r0 => some (.tuple #[r0, x15], h3))
    (bd1 (vP Tryd.prog (.nilCheck (.const x13)) 0) fun x21 =>
      bd1 (vR Tryd.prog (.load 39 (.const x21)) 39 h2) fun x22 =>
      bd2 (vE Tryd.prog call (.store 39 (.const x4) (.const x22)) 0 h2) fun _ h3 =>
      bd1 (vL Tryd.prog 39 x4 h3) fun r0 => some (.tuple #[r0, (.int .i64 0)], h3)) := textL T21 23 tk21 rfl (by kernel_rfl)


/-! 27: orpiment/attributes.class -/
def T27 : List Tab := [⟨0, [2, 2, 3], [], []⟩, ⟨1, [0, 1, 0, 1, 1, 3], [], []⟩, ⟨2, [0, 1, 0, 0, 3], [], []⟩, ⟨3, [1, 0, 1, 2, 3], [], []⟩, ⟨4, [0, 1, 0, 0, 3], [], []⟩, ⟨5, [0, 1, 0, 3], [], []⟩]
theorem tk27 : tabsOk Tryd.prog T27 (bodyOf Tryd.prog 27) = true := by kernel_rfl
theorem f27 (call : CallF) (v0 v1 : Value) (h : H) : kCode Tryd.prog call (bodyOf Tryd.prog 27) ⟨#[v0, v1, undef, undef, undef, undef, undef, undef, undef, undef, undef, undef, undef, undef, undef, undef, undef, undef, undef, undef, undef, undef, undef, undef, undef, undef, undef], []⟩ h (kEnd Tryd.prog 27) =
  bd2 (vE Tryd.prog call (.box 23 (.const v0)) 0 h) fun x2 h1 =>
  bd2 (vE Tryd.prog call (.box 26 (.const v1)) 0 h1) fun x3 h2 =>
  bd1 (vP Tryd.prog (.fieldAddr 26 (.const x3) 0) 0) fun x6 =>
  bd1 (vR Tryd.prog (.load 3 (.const x6)) 3 h2) fun x7 =>
  bd1 (vP Tryd.prog (.fieldAddr 23 (.const x2) 1) 0) fun x8 =>
  bd1 (vR Tryd.prog (.load 3 (.const x8)) 3 h2) fun x9 =>
  bd1 (vB Tryd.prog .eql 3 (.tmp 7) (.tmp 9) x7 x9 h2) fun x10 =>
  ifV x10
    (bd1 (vP Tryd.prog (.fieldAddr 23 (.const x2) 0) 0) fun x11 =>
      bd1 (vR Tryd.prog (.load 3 (.const x11)) 3 h2) fun x12 =>
      bd1 (vP Tryd.prog (.binOp .quo 3 (.const x12) (.const (.int .i64 64)) 3) 3) fun x13 =>
      bd1 (vP Tryd.prog (.binOp .rem 3 (.const x13) (.const (.int .i64 8)) 3) 3) fun x14 =>
      some (x14, h2))
    (bd1 (vR Tryd.prog (.load 26 (.const x3)) 26 h2) fun x16 =>
      bd1 (vP Tryd.prog (.fieldAddr 23 (.const x2) 2) 0) fun x17 =>
      bd1 (vR Tryd.prog (.load 3 (.const x17)) 3 h2) fun x18 =>
      bd2 (call 65 #[x16, x18] h2) fun x19 h3 =>
      ifV x19
        (bd1 (vP Tryd.prog (.fieldAddr 23 (.const x2) 0) 0) fun x20 =>
          bd1 (vR Tryd.prog (.load 3 (.const x20)) 3 h3) fun x21 =>
          bd1 (vP Tryd.prog (.binOp .quo 3 (.const x21) (.const (.int .i64 8)) 3) 3) fun x22 =>
          bd1 (vP Tryd.prog (.binOp .rem 3 (.const x22) (.const (.int .i64 8)) 3) 3) fun x23 =>
          some (x23, h3))
        (bd1 (vP Tryd.prog (.fieldAddr 23 (.const x2) 0) 0) fun x24 =>
          bd1 (vR Tryd.prog (.load 3 (.const x24)) 3 h3) fun x25 =>
          bd1 (vP Tryd.prog (.binOp .rem 3 (.const x25) (.const (.int .i64 8)) 3) 3) fun x26 =>
          some (x26, h3))) := textL T27 27 tk27 rfl (by kernel_rfl)


/-! 29: (*orpiment/attributes.register[orpiment/attributes.Attr]).add -/
def T29 : List Tab := [⟨0, [2, 3], [], []⟩, ⟨1, [3, 0, 0, 1, 0, 0, 0, 2], [], []⟩, ⟨2, [3, 0, 0, 1, 3, 0, 0, 1, 2], [0, 1, 3, 7, 0, 16, 48, 112, 255], [0, 0, 0, 256, 0, 0, 0, 256, 0]⟩, ⟨3, [3, 0, 0, 1, 3], [], []⟩]
theorem tk29 : tabsOk Tryd.prog T29 (bodyOf Tryd.prog 29) = true := by kernel_rfl
theorem f29 (call : CallF) (v0 v1 : Value) (h : H) : kCode Tryd.prog call (bodyOf Tryd.prog 29) ⟨#[v0, v1, undef, undef, undef, undef, undef, undef, undef, undef, undef, undef, undef, undef, undef, undef, undef, undef, undef, undef, undef, undef, undef, undef], []⟩ h (kEnd Tryd.prog 29) =
  bd2 (vE Tryd.prog call (.box 23 (.const v1)) 0 h) fun x3 h1 =>
  bd1 (vP Tryd.prog (.nilCheck (.const v0)) 0) fun x6 =>
  bd1 (vP Tryd.prog (.fieldAddr 76 (.const x6) 1) 0) fun x7 =>
  bd1 (vR Tryd.prog (.load 3 (.const x7)) 3 h1) fun x8 =>
  bd1 (vP Tryd.prog (.binOp .add 3 (.const x8) (.const (.int .i64 1)) 3) 3) fun x9 =>
  bd1 (vP Tryd.prog (.nilCheck (.const v0)) 0) fun x10 =>
  bd1 (vP Tryd.prog (.fieldAddr 76 (.const x10) 1) 0) fun x11 =>
  bd2 (vE Tryd.prog call (.store 3 (.const x11) (.const x9)) 0 h1) fun _ h2 =>
  bd1 (vP Tryd.prog (.nilCheck (.const v0)) 0) fun x13 =>
  bd1 (vP Tryd.prog (.fieldAddr 76 (.const x13) 0) 0) fun x14 =>
  bd1 (vR Tryd.prog (.load 74 (.const x14)) 74 h2) fun x15 =>
  bd1 (vP Tryd.prog (.nilCheck (.const v0)) 0) fun x17 =>
  bd1 (vP Tryd.prog (.fieldAddr 76 (.const x17) 1) 0) fun x18 =>
  bd1 (vR Tryd.prog (.load 3 (.const x18)) 3 h2) fun x19 =>
  same (vR Tryd.prog (.load 74 (.const x14)) 74 h2) x15 <| same (vR Tryd.prog (.load 3 (.const x18)) 3 h2) x19 <| bd2 (vE Tryd.prog call (.mapUpdate 74 (.const x15) (.const x19) (.const x3)) 0 h2) fun _ h3 =>
  bd1 (vP Tryd.prog (.nilCheck (.const v0)) 0) fun x21 =>
  bd1 (vP Tryd.prog (.fieldAddr 76 (.const x21) 1) 0) fun x22 =>
  bd1 (vR Tryd.prog (.load 3 (.const x22)) 3 h3) fun x23 =>
  some (x23, h3) := textL T29 24 tk29 rfl (by kernel_rfl)


/-! 30: (*orpiment/attributes.Table).object -/
def T30 : List Tab := [⟨0, [3, 3], [], []⟩, ⟨1, [3, 1], [], []⟩, ⟨2, [3, 3], [], []⟩, ⟨3, [3, 0, 0, 0, 1, 3, 1, 3, 0, 0, 3, 3], [], []⟩, ⟨4, [3, 0], [], []⟩, ⟨5, [3, 3], [], []⟩, ⟨6, [3, 3, 3], [], []⟩]
theorem tk30 : tabsOk Tryd.prog T30 (bodyOf Tryd.prog 30) = true := by kernel_rfl
theorem f30 (call : CallF) (v0 v1 : Value) (h : H) : kCode Tryd.prog call (bodyOf Tryd.prog 30) ⟨#[v0, v1, undef, undef, undef, undef, undef, undef, undef, undef, undef, undef, undef, undef, undef, undef, undef, undef, undef, undef, undef, undef, undef], []⟩ h (kEnd Tryd.prog 30) =
  bd1 (vB Tryd.prog .eql 32 (.tmp 8) (.const (.pointer none)) v0 (.pointer none) h) fun x9 =>
  ifV x9
    (some (.tuple #[(.pointer none), (.int .i64 35)], h))
    (bd1 (vP Tryd.prog (.nilCheck (.const v0)) 0) fun x12 =>
      bd1 (vP Tryd.prog (.fieldAddr 78 (.const x12) 1) 0) fun x13 =>
      bd1 (vP Tryd.prog (.fieldAddr 76 (.const x13) 0) 0) fun x14 =>
      bd1 (vR Tryd.prog (.load 74 (.const x14)) 74 h) fun x15 =>
      bd1 (vR Tryd.prog (.lookup 74 (.const x15) (.const v1) true) 114 h) fun x17 =>
      bd1 (vP Tryd.prog (.extract (.const x17) 0) 80) fun x18 =>
      bd1 (vP Tryd.prog (.extract (.const x17) 1) 4) fun x19 =>
      bd1 (vP Tryd.prog (.unOp .not 4 (.const x19)) 4) fun x21 =>
      ifV x21
        (some (.tuple #[(.pointer none), (.int .i64 22)], h))
        (some (.tuple #[x18, (.int .i64 0)], h))) := textL T30 23 tk30 rfl (by kernel_rfl)


/-! 31: (*orpiment/attributes.Table).Open$1 -/
def T31 : List Tab := [⟨0, [3], [], []⟩, ⟨1, [3, 0, 0, 1, 1, 1, 3, 3, 0, 0, 1, 0, 1, 0, 1, 3, 3, 0, 0, 1, 0, 1, 0, 1, 3, 3, 3], [0, 1, 3, 7, 0, 31, 63, 127, 255, 511, 1023, 127, 2175, 8191, 16383, 32767, 65535, 131071, 262143, 524287, 65535, 1114111, 4194303, 8388607, 16777215, 33554431, 67108863], [0, 0, 0, 134217728, 134217728, 134217728, 0, 0, 0, 0, 134217728, 0, 134217728, 0, 134217728, 0, 0, 0, 0, 134217728, 0, 134217728, 0, 134217728, 0, 0, 0]⟩]
theorem tk31 : tabsOk Tryd.prog T31 (bodyOf Tryd.prog 31) = true := by kernel_rfl
theorem f31 (call : CallF) (v0 v1 v2 : Value) (h : H) : kCode Tryd.prog call (bodyOf Tryd.prog 31) ⟨#[v0, v1, v2, undef, undef, undef, undef, undef, undef, undef, undef, undef, undef, undef, undef, undef, undef, undef, undef, undef, undef, undef, undef, undef, undef, undef, undef, undef, undef, undef, undef], []⟩ h (kEnd Tryd.prog 31) =
  bd1 (vP Tryd.prog (.nilCheck (.const v0)) 0) fun x6 =>
  bd1 (vP Tryd.prog (.fieldAddr 39 (.const x6) 0) 0) fun x7 =>
  bd1 (vR Tryd.prog (.load 3 (.const x7)) 3 h) fun x8 =>
  bd1 (vR Tryd.prog (.load 3 (.const v1)) 3 h) fun x9 =>
  bd1 (vB Tryd.prog .eql 3 (.tmp 8) (.tmp 9) x8 x9 h) fun x10 =>
  ifV x10
    (bd1 (vP Tryd.prog (.nilCheck (.const v0)) 0) fun x13 =>
      bd1 (vP Tryd.prog (.fieldAddr 39 (.const x13) 1) 0) fun x14 =>
      bd1 (vR Tryd.prog (.load 3 (.const x14)) 3 h) fun x15 =>
      bd1 (vP Tryd.prog (.fieldAddr 39 (.const v2) 2) 0) fun x16 =>
      bd1 (vR Tryd.prog (.load 3 (.const x16)) 3 h) fun x17 =>
      bd1 (vP Tryd.prog (.binOp .and 3 (.const x15) (.const x17) 3) 3) fun x18 =>
      bd1 (vB Tryd.prog .neq 3 (.tmp 18) (.const (.int .i64 0)) x18 (.int .i64 0) h) fun x19 =>
      ifV x19
        (same (vR Tryd.prog (.load 3 (.const x7)) 3 h) x8 <| same (vR Tryd.prog (.load 3 (.const v1)) 3 h) x9 <| same (vB Tryd.prog .eql 3 (.tmp 8) (.tmp 9) x8 x9 h) x10 <| same (vR Tryd.prog (.load 3 (.const x14)) 3 h) x15 <| same (vR Tryd.prog (.load 3 (.const x16)) 3 h) x17 <| same (vB Tryd.prog .neq 3 (.tmp 18) (.const (.int .i64 0)) x18 (.int .i64 0) h) x19 <| some ((.bool true), h))
        (bd1 (vP Tryd.prog (.nilCheck (.const v0)) 0) fun x22 =>
          bd1 (vP Tryd.prog (.fieldAddr 39 (.const x22) 2) 0) fun x23 =>
          bd1 (vR Tryd.prog (.load 3 (.const x23)) 3 h) fun x24 =>
          bd1 (vP Tryd.prog (.fieldAddr 39 (.const v2) 1) 0) fun x25 =>
          bd1 (vR Tryd.prog (.load 3 (.const x25)) 3 h) fun x26 =>
          bd1 (vP Tryd.prog (.binOp .and 3 (.const x24) (.const x26) 3) 3) fun x27 =>
          bd1 (vB Tryd.prog .neq 3 (.tmp 27) (.const (.int .i64 0)) x27 (.int .i64 0) h) fun x28 =>
          same (vR Tryd.prog (.load 3 (.const x7)) 3 h) x8 <| same (vR Tryd.prog (.load 3 (.const v1)) 3 h) x9 <| same (vB Tryd.prog .eql 3 (.tmp 8) (.tmp 9) x8 x9 h) x10 <| same (vR Tryd.prog (.load 3 (.const x14)) 3 h) x15 <| same (vR Tryd.prog (.load 3 (.const x16)) 3 h) x17 <| same (vB Tryd.prog .neq 3 (.tmp 18) (.const (.int .i64 0)) x18 (.int .i64 0) h) x19 <| same (vR Tryd.prog (.load 3 (.const x23)) 3 h) x24 <| same (vR Tryd.prog (.load 3 (.const x25)) 3 h) x26 <| same (vB Tryd.prog .neq 3 (.tmp 27) (.const (.int .i64 0)) x27 (.int .i64 0) h) x28 <| some (x28, h)))
    (same (vR Tryd.prog (.load 3 (.const x7)) 3 h) x8 <| same (vR Tryd.prog (.load 3 (.const v1)) 3 h) x9 <| same (vB Tryd.prog .eql 3 (.tmp 8) (.tmp 9) x8 x9 h) x10 <| some ((.bool false), h)) := textL T31 31 tk31 rfl (by kernel_rfl)


/-! 33: (*orpiment/attributes.register[orpiment/attributes.Block]).add -/
def T33 : List Tab := [⟨0, [2, 3], [], []⟩, ⟨1, [3, 0, 0, 1, 0, 0, 0, 2], [], []⟩, ⟨2, [3, 0, 0, 1, 3, 0, 0, 1, 2], [0, 1, 3, 7, 0, 16, 48, 112, 255], [0, 0, 0, 256, 0, 0, 0, 256, 0]⟩, ⟨3, [3, 0, 0, 1, 3], [], []⟩]
theorem tk33 : tabsOk Tryd.prog T33 (bodyOf Tryd.prog 33) = true := by kernel_rfl
theorem f33 (call : CallF) (v0 v1 : Value) (h : H) : kCode Tryd.prog call (bodyOf Tryd.prog 33) ⟨#[v0, v1, undef, undef, undef, undef, undef, undef, undef, undef, undef, undef, undef, undef, undef, undef, undef, undef, undef, undef, undef, undef, undef, undef], []⟩ h (kEnd Tryd.prog 33) =
  bd2 (vE Tryd.prog call (.box 39 (.const v1)) 0 h) fun x3 h1 =>
  bd1 (vP Tryd.prog (.nilCheck (.const v0)) 0) fun x6 =>
  bd1 (vP Tryd.prog (.fieldAddr 71 (.const x6) 1) 0) fun x7 =>
  bd1 (vR Tryd.prog (.load 3 (.const x7)) 3 h1) fun x8 =>
  bd1 (vP Tryd.prog (.binOp .add 3 (.const x8) (.const (.int .i64 1)) 3) 3) fun x9 =>
  bd1 (vP Tryd.prog (.nilCheck (.const v0)) 0) fun x10 =>
  bd1 (vP Tryd.prog (.fieldAddr 71 (.const x10) 1) 0) fun x11 =>
  bd2 (vE Tryd.prog call (.store 3 (.const x11) (.const x9)) 0 h1) fun _ h2 =>
  bd1 (vP Tryd.prog (.nilCheck (.const v0)) 0) fun x13 =>
  bd1 (vP Tryd.prog (.fieldAddr 71 (.const x13) 0) 0) fun x14 =>
  bd1 (vR Tryd.prog (.load 69 (.const x14)) 69 h2) fun x15 =>
  bd1 (vP Tryd.prog (.nilCheck (.const v0)) 0) fun x17 =>
  bd1 (vP Tryd.prog (.fieldAddr 71 (.const x17) 1) 0) fun x18 =>
  bd1 (vR Tryd.prog (.load 3 (.const x18)) 3 h2) fun x19 =>
  same (vR Tryd.prog (.load 69 (.const x14)) 69 h2) x15 <| same (vR Tryd.prog (.load 3 (.const x18)) 3 h2) x19 <| bd2 (vE Tryd.prog call (.mapUpdate 69 (.const x15) (.const x19) (.const x3)) 0 h2) fun _ h3 =>
  bd1 (vP Tryd.prog (.nilCheck (.const v0)) 0) fun x21 =>
  bd1 (vP Tryd.prog (.fieldAddr 71 (.const x21) 1) 0) fun x22 =>
  bd1 (vR Tryd.prog (.load 3 (.const x22)) 3 h3) fun x23 =>
  some (x23, h3) := textL T33 24 tk33 rfl (by kernel_rfl)


/-! 34: (*orpiment/attributes.Table).used -/
def T34 : List Tab := [⟨0, [3, 3, 3], [], []⟩, ⟨1, [3, 3, 2, 3, 0, 0, 0, 3, 3, 3], [], []⟩, ⟨2, [3, 1, 3], [], []⟩, ⟨3, [3, 3, 3, 3], [], []⟩, ⟨4, [3, 0, 0, 1, 3, 0, 1, 3], [], []⟩, ⟨5, [3, 3, 3], [], []⟩, ⟨6, [3, 0, 3], [], []⟩, ⟨7, [3, 3, 3], [], []⟩, ⟨8, [3, 3, 3, 3, 3], [], []⟩]
theorem tk34 : tabsOk Tryd.prog T34 (bodyOf Tryd.prog 34) = true := by kernel_rfl
theorem f34 (call : CallF) (v0 v1 v2 v3 : Value) (h : H) : kCode Tryd.prog call (bodyOf Tryd.prog 34) ⟨#[v0, v1, v2, v3, undef, undef, undef, undef, undef, undef, undef, undef, undef, undef, undef, undef, undef, undef, undef, undef, undef, undef, undef, undef, undef, undef, undef, undef, undef, undef, undef, undef, undef, undef, undef, undef, undef, undef], []⟩ h (kEnd Tryd.prog 34) =
  bd2 (call 61 #[v0, v1] h) fun x17 h1 =>
  bd1 (vP Tryd.prog (.extract (.const x17) 0) 83) fun x18 =>
  bd1 (vP Tryd.prog (.extract (.const x17) 1) 80) fun x19 =>
  bd1 (vP Tryd.prog (.extract (.const x17) 2) 34) fun x20 =>
  bd1 (vB Tryd.prog .neq 34 (.tmp 22) (.const (.int .i64 0)) x20 (.int .i64 0) h1) fun x23 =>
  ifV x23
    (some (.tuple #[(.pointer none), (.pointer none), x20], h1))
    (bd1 (vP Tryd.prog (.nilCheck (.const x18)) 0) fun x27 =>
      bd1 (vP Tryd.prog (.fieldAddr 39 (.const x27) 1) 0) fun x28 =>
      bd1 (vR Tryd.prog (.load 3 (.const x28)) 3 h1) fun x29 =>
      bd1 (vP Tryd.prog (.binOp .and 3 (.const x29) (.const v3) 3) 3) fun x31 =>
      bd1 (vB Tryd.prog .eql 3 (.tmp 31) (.const (.int .i64 0)) x31 (.int .i64 0) h1) fun x32 =>
      ifV x32
        (some (.tuple #[(.pointer none), (.pointer none), (.int .i64 1)], h1))
        (bd1 (vP Tryd.prog (.binOp .lss 3 (.const v2) (.const (.int .i64 0)) 3) 4) fun x35 =>
          ifV x35
            (some (.tuple #[(.pointer none), (.pointer none), (.int .i64 34)], h1))
            (some (.tuple #[x18, x19, (.int .i64 0)], h1)))) := textL T34 38 tk34 rfl (by kernel_rfl)


/-! 39: (*orpiment/attributes.Table).Dup -/
def T39 : List Tab := [⟨0, [3], [], []⟩, ⟨1, [3, 3, 2, 3, 0, 0, 0, 3, 3, 3], [], []⟩, ⟨2, [3, 1], [], []⟩, ⟨3, [3, 3], [], []⟩, ⟨4, [3, 0, 0, 1, 0], [], []⟩, ⟨5, [3], [], []⟩, ⟨6, [3, 0, 0, 1, 0, 0, 0, 2], [], []⟩, ⟨7, [3], [], []⟩]
theorem tk39 : tabsOk Tryd.prog T39 (bodyOf Tryd.prog 39) = true := by kernel_rfl
theorem f39 (call : CallF) (v0 v1 : Value) (h : H) : kCode Tryd.prog call (bodyOf Tryd.prog 39) ⟨#[v0, v1, undef, undef, undef, undef, undef, undef, undef, undef, undef, undef, undef, undef, undef, undef, undef, undef, undef, undef, undef, undef, undef, undef, undef, undef, undef, undef, undef, undef], []⟩ h (kEnd Tryd.prog 39) =
  bd2 (call 61 #[v0, v1] h) fun x11 h1 =>
  bd1 (vP Tryd.prog (.extract (.const x11) 0) 83) fun x12 =>
  bd1 (vP Tryd.prog (.extract (.const x11) 1) 80) fun x13 =>
  bd1 (vP Tryd.prog (.extract (.const x11) 2) 34) fun x14 =>
  bd1 (vB Tryd.prog .neq 34 (.tmp 15) (.const (.int .i64 0)) x14 (.int .i64 0) h1) fun x16 =>
  ifV x16
    (some (x14, h1))
    (bd1 (vP Tryd.prog (.nilCheck (.const x12)) 0) fun x19 =>
      bd1 (vP Tryd.prog (.fieldAddr 39 (.const x19) 5) 0) fun x20 =>
      bd1 (vR Tryd.prog (.load 3 (.const x20)) 3 h1) fun x21 =>
      bd1 (vP Tryd.prog (.binOp .geq 3 (.const x21) (.const (.int .i64 200)) 3) 4) fun x22 =>
      ifV x22
        (some ((.int .i64 18), h1))
        (bd1 (vP Tryd.prog (.nilCheck (.const x12)) 0) fun x24 =>
          bd1 (vP Tryd.prog (.fieldAddr 39 (.const x24) 5) 0) fun x25 =>
          bd1 (vR Tryd.prog (.load 3 (.const x25)) 3 h1) fun x26 =>
          bd1 (vP Tryd.prog (.binOp .add 3 (.const x26) (.const (.int .i64 1)) 3) 3) fun x27 =>
          bd1 (vP Tryd.prog (.nilCheck (.const x12)) 0) fun x28 =>
          bd1 (vP Tryd.prog (.fieldAddr 39 (.const x28) 5) 0) fun x29 =>
          bd2 (vE Tryd.prog call (.store 3 (.const x29) (.const x27)) 0 h1) fun _ h2 =>
          some ((.int .i64 0), h2))) := textL T39 30 tk39 rfl (by kernel_rfl)


/-! 41: (*orpiment/attributes.Table).Close -/
def T41 : List Tab := [⟨0, [3, 3], [], []⟩, ⟨1, [3, 3, 2, 3, 0, 0, 0, 3, 3, 3], [], []⟩, ⟨2, [3, 1], [], []⟩, ⟨3, [3, 3, 3], [], []⟩, ⟨4, [3, 0, 0, 1, 0, 0, 0, 2], [], []⟩, ⟨5, [3, 0, 0, 1, 0], [], []⟩, ⟨6, [3, 3], [], []⟩, ⟨7, [3, 0, 0, 0, 0, 1, 3, 2], [], []⟩, ⟨8, [3, 3, 0, 0, 1, 2, 3, 3], [], []⟩]
theorem tk41 : tabsOk Tryd.prog T41 (bodyOf Tryd.prog 41) = true := by kernel_rfl
theorem f41 (call : CallF) (v0 v1 : Value) (h : H) : kCode Tryd.prog call (bodyOf Tryd.prog 41) ⟨#[v0, v1, undef, undef, undef, undef, undef, undef, undef, undef, undef, undef, undef, undef, undef, undef, undef, undef, undef, undef, undef, undef, undef, undef, undef, undef, undef, undef, undef, undef, undef, undef, undef, undef, undef, undef, undef, undef, undef, undef, undef, undef, undef, undef], []⟩ h (kEnd Tryd.prog 41) =
  bd2 (call 61 #[v0, v1] h) fun x12 h1 =>
  bd1 (vP Tryd.prog (.extract (.const x12) 0) 83) fun x13 =>
  bd1 (vP Tryd.prog (.extract (.const x12) 1) 80) fun x14 =>
  bd1 (vP Tryd.prog (.extract (.const x12) 2) 34) fun x15 =>
  bd1 (vB Tryd.prog .neq 34 (.tmp 16) (.const (.int .i64 0)) x15 (.int .i64 0) h1) fun x17 =>
  ifV x17
    (some (.tuple #[(.bool false), x15], h1))
    (bd1 (vP Tryd.prog (.nilCheck (.const x13)) 0) fun x20 =>
      bd1 (vP Tryd.prog (.fieldAddr 39 (.const x20) 5) 0) fun x21 =>
      bd1 (vR Tryd.prog (.load 3 (.const x21)) 3 h1) fun x22 =>
      bd1 (vP Tryd.prog (.binOp .sub 3 (.const x22) (.const (.int .i64 1)) 3) 3) fun x23 =>
      bd1 (vP Tryd.prog (.nilCheck (.const x13)) 0) fun x24 =>
      bd1 (vP Tryd.prog (.fieldAddr 39 (.const x24) 5) 0) fun x25 =>
      bd2 (vE Tryd.prog call (.store 3 (.const x25) (.const x23)) 0 h1) fun _ h2 =>
      bd1 (vP Tryd.prog (.nilCheck (.const x13)) 0) fun x27 =>
      bd1 (vP Tryd.prog (.fieldAddr 39 (.const x27) 5) 0) fun x28 =>
      bd1 (vR Tryd.prog (.load 3 (.const x28)) 3 h2) fun x29 =>
      bd1 (vP Tryd.prog (.binOp .gtr 3 (.const x29) (.const (.int .i64 0)) 3) 4) fun x30 =>
      ifV x30
        (some (.tuple #[(.bool false), (.int .i64 0)], h2))
        (bd1 (vP Tryd.prog (.nilCheck (.const v0)) 0) fun x32 =>
          bd1 (vP Tryd.prog (.fieldAddr 78 (.const x32) 0) 0) fun x33 =>
          bd1 (vP Tryd.prog (.fieldAddr 73 (.const x33) 0) 0) fun x34 =>
          bd1 (vP Tryd.prog (.fieldAddr 71 (.const x34) 0) 0) fun x35 =>
          bd1 (vR Tryd.prog (.load 69 (.const x35)) 69 h2) fun x36 =>
          bd2 (vE Tryd.prog call (.call ⟨.builtin .delete, #[(.const x36), (.const v1)], #[69, 3]⟩) 0 h2) fun _ h3 =>
          bd1 (vP Tryd.prog (.nilCheck (.const x13)) 0) fun x40 =>
          bd1 (vP Tryd.prog (.fieldAddr 39 (.const x40) 0) 0) fun x41 =>
          bd1 (vR Tryd.prog (.load 3 (.const x41)) 3 h3) fun x42 =>
          bd2 (call 68 #[v0, x42] h3) fun x43 h4 =>
          some (.tuple #[x43, (.int .i64 0)], h4))) := textL T41 44 tk41 rfl (by kernel_rfl)


/-! 43: (*orpiment/attributes.Table).Read -/
def T43 : List Tab := [⟨0, [3, 3, 3], [], []⟩, ⟨1, [3, 3, 3, 2, 3, 0, 0, 0, 3, 3, 3], [], []⟩, ⟨2, [3, 1], [], []⟩, ⟨3, [3, 3, 3, 3], [], []⟩, ⟨4, [3, 0, 0, 1, 3], [], []⟩, ⟨5, [3, 3, 0, 0, 1, 3, 0, 0, 0, 3], [], []⟩, ⟨6, [3, 0, 0, 1, 3, 0, 0, 0, 2], [], []⟩, ⟨7, [3, 3, 3, 3, 3], [], []⟩]
theorem tk43 : tabsOk Tryd.prog T43 (bodyOf Tryd.prog 43) = true := by kernel_rfl
theorem f43 (call : CallF) (v0 v1 v2 : Value) (h : H) : kCode Tryd.prog call (bodyOf Tryd.prog 43) ⟨#[v0, v1, v2, undef, undef, undef, undef, undef, undef, undef, undef, undef, undef, undef, undef, undef, undef, undef, undef, undef, undef, undef, undef, undef, undef, undef, undef, undef, undef, undef, undef, undef, undef, undef, undef, undef, undef, undef, undef, undef, undef, undef, undef, undef, undef, undef, undef, undef], []⟩ h (kEnd Tryd.prog 43) =
  bd2 (call 34 #[v0, v1, v2, (.int .i64 1)] h) fun x18 h1 =>
  bd1 (vP Tryd.prog (.extract (.const x18) 0) 83) fun x19 =>
  bd1 (vP Tryd.prog (.extract (.const x18) 1) 80) fun x20 =>
  bd1 (vP Tryd.prog (.extract (.const x18) 2) 34) fun x21 =>
  bd1 (vB Tryd.prog .neq 34 (.tmp 22) (.const (.int .i64 0)) x21 (.int .i64 0) h1) fun x23 =>
  ifV x23
    (some (.tuple #[(.int .i64 0), (.int .i64 0), x21], h1))
    (bd1 (vP Tryd.prog (.nilCheck (.const x19)) 0) fun x26 =>
      bd1 (vP Tryd.prog (.fieldAddr 39 (.const x26) 4) 0) fun x27 =>
      bd1 (vR Tryd.prog (.load 2 (.const x27)) 2 h1) fun x28 =>
      bd1 (vP Tryd.prog (.nilCheck (.const x20)) 0) fun x31 =>
      bd1 (vP Tryd.prog (.fieldAddr 23 (.const x31) 3) 0) fun x32 =>
      bd1 (vR Tryd.prog (.load 2 (.const x32)) 2 h1) fun x33 =>
      bd1 (vP Tryd.prog (.binOp .sub 2 (.const x33) (.const x28) 2) 2) fun x35 =>
      bd1 (vP Tryd.prog (.call ⟨.builtin .min, #[(.const v2), (.const x35)], #[2, 2]⟩) 2) fun x36 =>
      bd1 (vP Tryd.prog (.call ⟨.builtin .max, #[(.const x36), (.const (.int .i64 0))], #[2, 2]⟩) 2) fun x37 =>
      bd1 (vP Tryd.prog (.nilCheck (.const x19)) 0) fun x39 =>
      bd1 (vP Tryd.prog (.fieldAddr 39 (.const x39) 4) 0) fun x40 =>
      bd1 (vR Tryd.prog (.load 2 (.const x40)) 2 h1) fun x41 =>
      bd1 (vP Tryd.prog (.binOp .add 2 (.const x41) (.const x37) 2) 2) fun x43 =>
      bd1 (vP Tryd.prog (.nilCheck (.const x19)) 0) fun x44 =>
      bd1 (vP Tryd.prog (.fieldAddr 39 (.const x44) 4) 0) fun x45 =>
      bd2 (vE Tryd.prog call (.store 2 (.const x45) (.const x43)) 0 h1) fun _ h2 =>
      some (.tuple #[x28, x37, (.int .i64 0)], h2)) := textL T43 48 tk43 rfl (by kernel_rfl)


/-! 46: (*orpiment/attributes.Table).Seek -/
def T46 : List Tab := [⟨0, [3, 3], [], []⟩, ⟨1, [3, 3, 2, 3, 0, 0, 0, 3, 3, 3], [], []⟩, ⟨2, [3, 1, 3], [], []⟩, ⟨3, [3, 3, 3], [], []⟩, ⟨4, [3, 0, 3, 3, 0, 3, 3], [], []⟩, ⟨5, [3, 3], [], []⟩, ⟨6, [3, 0, 3, 3, 0, 3, 3], [], []⟩, ⟨7, [3, 3], [], []⟩, ⟨8, [3, 3, 0, 0, 1, 3, 0, 0, 1, 0, 3, 0, 0, 3], [0, 0, 2, 6, 14, 0, 32, 96, 224, 510, 0, 2046, 4095, 8191], [0, 0, 0, 0, 16384, 0, 0, 0, 16384, 0, 0, 0, 0, 0]⟩, ⟨9, [3, 0, 3, 3, 0, 3], [], []⟩, ⟨10, [3, 3], [], []⟩, ⟨11, [3, 3, 0, 0, 2], [], []⟩, ⟨12, [3, 3, 3], [], []⟩]
theorem tk46 : tabsOk Tryd.prog T46 (bodyOf Tryd.prog 46) = true := by kernel_rfl
theorem f46 (call : CallF) (v0 v1 v2 v3 : Value) (h : H) : kCode Tryd.prog call (bodyOf Tryd.prog 46) ⟨#[v0, v1, v2, v3, undef, undef, undef, undef, undef, undef, undef, undef, undef, undef, undef, undef, undef, undef, undef, undef, undef, undef, undef, undef, undef, undef, undef, undef, undef, undef, undef, undef, undef, undef, undef, undef, undef, undef, undef, undef, undef, undef, undef, undef, undef, undef, undef, undef, undef, undef, undef, undef, undef, undef, undef, undef, undef, undef, undef, undef, undef, undef, undef], []⟩ h (kEnd Tryd.prog 46) =
  bd2 (call 61 #[v0, v1] h) fun x17 h1 =>
  bd1 (vP Tryd.prog (.extract (.const x17) 0) 83) fun x18 =>
  bd1 (vP Tryd.prog (.extract (.const x17) 1) 80) fun x19 =>
  bd1 (vP Tryd.prog (.extract (.const x17) 2) 34) fun x20 =>
  bd1 (vB Tryd.prog .neq 34 (.tmp 22) (.const (.int .i64 0)) x20 (.int .i64 0) h1) fun x23 =>
  ifV x23
    (some (.tuple #[(.int .i64 0), x20], h1))
    (bd1 (vP Tryd.prog (.binOp .lss 3 (.const v3) (.const (.int .i64 0)) 3) 4) fun x27 =>
      ifV x27
        (some (.tuple #[(.int .i64 0), (.int .i64 14)], h1))
        (bd1 (vP Tryd.prog (.binOp .gtr 3 (.const v3) (.const (.int .i64 2)) 3) 4) fun x30 =>
          ifV x30
            (some (.tuple #[(.int .i64 0), (.int .i64 14)], h1))
            (bd1 (vP Tryd.prog (.binOp .lss 2 (.const v2) (.const (.int .i64 (-16384))) 2) 4) fun x34 =>
              ifV x34
                (some (.tuple #[(.int .i64 0), (.int .i64 34)], h1))
                (bd1 (vP Tryd.prog (.binOp .gtr 2 (.const v2) (.const (.int .i64 16384)) 2) 4) fun x37 =>
                  ifV x37
                    (some (.tuple #[(.int .i64 0), (.int .i64 34)], h1))
                    (bd1 (vP Tryd.prog (.nilCheck (.const x18)) 0) fun x41 =>
                      bd1 (vP Tryd.prog (.fieldAddr 39 (.const x41) 4) 0) fun x42 =>
                      bd1 (vR Tryd.prog (.load 2 (.const x42)) 2 h1) fun x43 =>
                      bd1 (vP Tryd.prog (.nilCheck (.const x19)) 0) fun x45 =>
                      bd1 (vP Tryd.prog (.fieldAddr 23 (.const x45) 3) 0) fun x46 =>
                      bd1 (vR Tryd.prog (.load 2 (.const x46)) 2 h1) fun x47 =>
                      bd1 (vP Tryd.prog (.build 122 #[(0, (.const (.int .i64 0))), (1, (.const x43)), (2, (.const x47))]) 122) fun x48 =>
                      bd1 (vP Tryd.prog (.index 122 (.const x48) (.const v3)) 2) fun x50 =>
                      bd1 (vP Tryd.prog (.binOp .add 2 (.const v2) (.const x50) 2) 2) fun x51 =>
                      same (vR Tryd.prog (.load 2 (.const x42)) 2 h1) x43 <| same (vR Tryd.prog (.load 2 (.const x46)) 2 h1) x47 <| bd1 (vP Tryd.prog (.binOp .lss 2 (.const x51) (.const (.int .i64 0)) 2) 4) fun x53 =>
                      ifV x53
                        (some (.tuple #[(.int .i64 0), (.int .i64 34)], h1))
                        (bd1 (vP Tryd.prog (.binOp .gtr 2 (.const x51) (.const (.int .i64 16384)) 2) 4) fun x56 =>
                          ifV x56
                            (some (.tuple #[(.int .i64 0), (.int .i64 34)], h1))
                            (bd1 (vP Tryd.prog (.nilCheck (.const x18)) 0) fun x60 =>
                              bd1 (vP Tryd.prog (.fieldAddr 39 (.const x60) 4) 0) fun x61 =>
                              bd2 (vE Tryd.prog call (.store 2 (.const x61) (.const x51)) 0 h1) fun _ h2 =>
                              some (.tuple #[x51, (.int .i64 0)], h2)))))))) := textL T46 63 tk46 rfl (by kernel_rfl)


/-! 48: (*orpiment/attributes.Table).Truncate -/
def T48 : List Tab := [⟨0, [3], [], []⟩, ⟨1, [3, 3, 2, 3, 0, 0, 0, 3, 3, 3], [], []⟩, ⟨2, [3, 1], [], []⟩, ⟨3, [3, 3], [], []⟩, ⟨4, [3, 0, 3, 3, 0, 3], [], []⟩, ⟨5, [3], [], []⟩, ⟨6, [3, 3, 0, 0, 2], [], []⟩, ⟨7, [3], [], []⟩]
theorem tk48 : tabsOk Tryd.prog T48 (bodyOf Tryd.prog 48) = true := by kernel_rfl
theorem f48 (call : CallF) (v0 v1 v2 : Value) (h : H) : kCode Tryd.prog call (bodyOf Tryd.prog 48) ⟨#[v0, v1, v2, undef, undef, undef, undef, undef, undef, undef, undef, undef, undef, undef, undef, undef, undef, undef, undef, undef, undef, undef, undef, undef, undef, undef, undef, undef, undef, undef], []⟩ h (kEnd Tryd.prog 48) =
  bd2 (call 34 #[v0, v1, (.int .i64 0), (.int .i64 2)] h) fun x13 h1 =>
  bd1 (vP Tryd.prog (.extract (.const x13) 0) 83) fun x14 =>
  bd1 (vP Tryd.prog (.extract (.const x13) 1) 80) fun x15 =>
  bd1 (vP Tryd.prog (.extract (.const x13) 2) 34) fun x16 =>
  bd1 (vB Tryd.prog .neq 34 (.tmp 17) (.const (.int .i64 0)) x16 (.int .i64 0) h1) fun x18 =>
  ifV x18
    (some (x16, h1))
    (bd1 (vP Tryd.prog (.binOp .lss 2 (.const v2) (.const (.int .i64 0)) 2) 4) fun x21 =>
      ifV x21
        (some ((.int .i64 34), h1))
        (bd1 (vP Tryd.prog (.binOp .gtr 2 (.const v2) (.const (.int .i64 16384)) 2) 4) fun x24 =>
          ifV x24
            (some ((.int .i64 34), h1))
            (bd1 (vP Tryd.prog (.nilCheck (.const x15)) 0) fun x28 =>
              bd1 (vP Tryd.prog (.fieldAddr 23 (.const x28) 3) 0) fun x29 =>
              bd2 (vE Tryd.prog call (.store 2 (.const x29) (.const v2)) 0 h1) fun _ h2 =>
              some ((.int .i64 0), h2)))) := textL T48 30 tk48 rfl (by kernel_rfl)


/-! 50: (*orpiment/attributes.Table).Chmod -/
def T50 : List Tab := [⟨0, [2, 3], [], []⟩, ⟨1, [3, 3, 2, 3, 0, 0, 3, 3], [], []⟩, ⟨2, [3, 1, 3], [], []⟩, ⟨3, [3, 3], [], []⟩, ⟨4, [3, 0, 3, 3, 0, 3, 3], [], []⟩, ⟨5, [3], [], []⟩, ⟨6, [0, 1, 1, 3, 0, 1, 3, 0, 0, 1, 1, 3, 3], [0, 1, 3, 7, 15, 31, 15, 79, 207, 463, 1023, 2047, 4095], [0, 8192, 8192, 0, 0, 8192, 0, 0, 0, 8192, 8192, 0, 0]⟩, ⟨7, [3], [], []⟩, ⟨8, [0, 1, 1, 3, 1, 3, 0, 0, 1, 2, 0, 3], [0, 1, 3, 7, 15, 15, 47, 111, 239, 511, 1023, 2047], [0, 512, 512, 0, 512, 0, 0, 0, 512, 0, 0, 0]⟩, ⟨9, [3, 0, 3], [], []⟩, ⟨10, [3, 3, 0, 0, 2], [], []⟩, ⟨11, [3], [], []⟩]
theorem tk50 : tabsOk Tryd.prog T50 (bodyOf Tryd.prog 50) = true := by kernel_rfl
theorem f50 (call : CallF) (v0 v1 v2 v3 : Value) (h : H) : kCode Tryd.prog call (bodyOf Tryd.prog 50) ⟨#[v0, v1, v2, v3, undef, undef, undef, undef, undef, undef, undef, undef, undef, undef, undef, undef, undef, undef, undef, undef, undef, undef, undef, undef, undef, undef, undef, undef, undef, undef, undef, undef, undef, undef, undef, undef, undef, undef, undef, undef, undef, undef, undef, undef, undef, undef, undef, undef, undef, undef, undef, undef, undef, undef, undef, undef, undef, undef, undef], []⟩ h (kEnd Tryd.prog 50) =
  bd2 (vE Tryd.prog call (.box 26 (.const v2)) 0 h) fun x6 h1 =>
  bd2 (call 30 #[v0, v1] h1) fun x14 h2 =>
  bd1 (vP Tryd.prog (.extract (.const x14) 0) 80) fun x15 =>
  bd1 (vP Tryd.prog (.extract (.const x14) 1) 34) fun x16 =>
  bd1 (vB Tryd.prog .neq 34 (.tmp 18) (.const (.int .i64 0)) x16 (.int .i64 0) h2) fun x19 =>
  ifV x19
    (some (x16, h2))
    (bd1 (vP Tryd.prog (.binOp .lss 3 (.const v3) (.const (.int .i64 0)) 3) 4) fun x23 =>
      ifV x23
        (some ((.int .i64 34), h2))
        (bd1 (vP Tryd.prog (.binOp .gtr 3 (.const v3) (.const (.int .i64 4095)) 3) 4) fun x26 =>
          ifV x26
            (some ((.int .i64 34), h2))
            (bd1 (vP Tryd.prog (.fieldAddr 26 (.const x6) 0) 0) fun x29 =>
              bd1 (vR Tryd.prog (.load 3 (.const x29)) 3 h2) fun x30 =>
              bd1 (vB Tryd.prog .neq 3 (.tmp 30) (.const (.int .i64 0)) x30 (.int .i64 0) h2) fun x31 =>
              ifV x31
                (bd1 (vP Tryd.prog (.fieldAddr 26 (.const x6) 0) 0) fun x33 =>
                  bd1 (vR Tryd.prog (.load 3 (.const x33)) 3 h2) fun x34 =>
                  bd1 (vP Tryd.prog (.nilCheck (.const x15)) 0) fun x36 =>
                  bd1 (vP Tryd.prog (.fieldAddr 23 (.const x36) 1) 0) fun x37 =>
                  bd1 (vR Tryd.prog (.load 3 (.const x37)) 3 h2) fun x38 =>
                  bd1 (vB Tryd.prog .neq 3 (.tmp 34) (.tmp 38) x34 x38 h2) fun x39 =>
                  same (vR Tryd.prog (.load 3 (.const x29)) 3 h2) x30 <| same (vB Tryd.prog .neq 3 (.tmp 30) (.const (.int .i64 0)) x30 (.int .i64 0) h2) x31 <| same (vR Tryd.prog (.load 3 (.const x33)) 3 h2) x34 <| same (vR Tryd.prog (.load 3 (.const x37)) 3 h2) x38 <| same (vB Tryd.prog .neq 3 (.tmp 34) (.tmp 38) x34 x38 h2) x39 <| ifV x39
                    (some ((.int .i64 32), h2))
                    (bd1 (vP Tryd.prog (.fieldAddr 26 (.const x6) 0) 0) fun x41 =>
                      bd1 (vR Tryd.prog (.load 3 (.const x41)) 3 h2) fun x42 =>
                      bd1 (vB Tryd.prog .neq 3 (.tmp 42) (.const (.int .i64 0)) x42 (.int .i64 0) h2) fun x43 =>
                      ifV x43
                        (bd1 (vR Tryd.prog (.load 26 (.const x6)) 26 h2) fun x45 =>
                          bd1 (vP Tryd.prog (.nilCheck (.const x15)) 0) fun x47 =>
                          bd1 (vP Tryd.prog (.fieldAddr 23 (.const x47) 2) 0) fun x48 =>
                          bd1 (vR Tryd.prog (.load 3 (.const x48)) 3 h2) fun x49 =>
                          same (vR Tryd.prog (.load 3 (.const x41)) 3 h2) x42 <| same (vB Tryd.prog .neq 3 (.tmp 42) (.const (.int .i64 0)) x42 (.int .i64 0) h2) x43 <| same (vR Tryd.prog (.load 26 (.const x6)) 26 h2) x45 <| same (vR Tryd.prog (.load 3 (.const x48)) 3 h2) x49 <| bd2 (call 65 #[x45, x49] h2) fun x50 h3 =>
                          bd1 (vP Tryd.prog (.unOp .not 4 (.const x50)) 4) fun x51 =>
                          ifV x51
                            (bd1 (vP Tryd.prog (.binOp .andNot 3 (.const v3) (.const (.int .i64 1024)) 3) 3) fun x54 =>
                              bd1 (vP Tryd.prog (.nilCheck (.const x15)) 0) fun x57 =>
                              bd1 (vP Tryd.prog (.fieldAddr 23 (.const x57) 0) 0) fun x58 =>
                              bd2 (vE Tryd.prog call (.store 3 (.const x58) (.const x54)) 0 h3) fun _ h4 =>
                              some ((.int .i64 0), h4))
                            (bd1 (vP Tryd.prog (.nilCheck (.const x15)) 0) fun x57 =>
                              bd1 (vP Tryd.prog (.fieldAddr 23 (.const x57) 0) 0) fun x58 =>
                              bd2 (vE Tryd.prog call (.store 3 (.const x58) (.const v3)) 0 h3) fun _ h4 =>
                              some ((.int .i64 0), h4)))
                        (same (vR Tryd.prog (.load 3 (.const x41)) 3 h2) x42 <| same (vB Tryd.prog .neq 3 (.tmp 42) (.const (.int .i64 0)) x42 (.int .i64 0) h2) x43 <| bd1 (vP Tryd.prog (.nilCheck (.const x15)) 0) fun x57 =>
                          bd1 (vP Tryd.prog (.fieldAddr 23 (.const x57) 0) 0) fun x58 =>
                          bd2 (vE Tryd.prog call (.store 3 (.const x58) (.const v3)) 0 h2) fun _ h3 =>
                          some ((.int .i64 0), h3))))
                (same (vR Tryd.prog (.load 3 (.const x29)) 3 h2) x30 <| same (vB Tryd.prog .neq 3 (.tmp 30) (.const (.int .i64 0)) x30 (.int .i64 0) h2) x31 <| bd1 (vP Tryd.prog (.fieldAddr 26 (.const x6) 0) 0) fun x41 =>
                  bd1 (vR Tryd.prog (.load 3 (.const x41)) 3 h2) fun x42 =>
                  bd1 (vB Tryd.prog .neq 3 (.tmp 42) (.const (.int .i64 0)) x42 (.int .i64 0) h2) fun x43 =>
                  ifV x43
                    (bd1 (vR Tryd.prog (.load 26 (.const x6)) 26 h2) fun x45 =>
                      bd1 (vP Tryd.prog (.nilCheck (.const x15)) 0) fun x47 =>
                      bd1 (vP Tryd.prog (.fieldAddr 23 (.const x47) 2) 0) fun x48 =>
                      bd1 (vR Tryd.prog (.load 3 (.const x48)) 3 h2) fun x49 =>
                      same (vR Tryd.prog (.load 3 (.const x41)) 3 h2) x42 <| same (vB Tryd.prog .neq 3 (.tmp 42) (.const (.int .i64 0)) x42 (.int .i64 0) h2) x43 <| same (vR Tryd.prog (.load 26 (.const x6)) 26 h2) x45 <| same (vR Tryd.prog (.load 3 (.const x48)) 3 h2) x49 <| bd2 (call 65 #[x45, x49] h2) fun x50 h3 =>
                      bd1 (vP Tryd.prog (.unOp .not 4 (.const x50)) 4) fun x51 =>
                      ifV x51
                        (bd1 (vP Tryd.prog (.binOp .andNot 3 (.const v3) (.const (.int .i64 1024)) 3) 3) fun x54 =>
                          bd1 (vP Tryd.prog (.nilCheck (.const x15)) 0) fun x57 =>
                          bd1 (vP Tryd.prog (.fieldAddr 23 (.const x57) 0) 0) fun x58 =>
                          bd2 (vE Tryd.prog call (.store 3 (.const x58) (.const x54)) 0 h3) fun _ h4 =>
                          some ((.int .i64 0), h4))
                        (bd1 (vP Tryd.prog (.nilCheck (.const x15)) 0) fun x57 =>
                          bd1 (vP Tryd.prog (.fieldAddr 23 (.const x57) 0) 0) fun x58 =>
                          bd2 (vE Tryd.prog call (.store 3 (.const x58) (.const v3)) 0 h3) fun _ h4 =>
                          some ((.int .i64 0), h4)))
                    (same (vR Tryd.prog (.load 3 (.const x41)) 3 h2) x42 <| same (vB Tryd.prog .neq 3 (.tmp 42) (.const (.int .i64 0)) x42 (.int .i64 0) h2) x43 <| bd1 (vP Tryd.prog (.nilCheck (.const x15)) 0) fun x57 =>
                      bd1 (vP Tryd.prog (.fieldAddr 23 (.const x57) 0) 0) fun x58 =>
                      bd2 (vE Tryd.prog call (.store 3 (.const x58) (.const v3)) 0 h2) fun _ h3 =>
                      some ((.int .i64 0), h3)))))) := textL T50 59 tk50 rfl (by kernel_rfl)


/-! 52: (*orpiment/attributes.Table).Chown -/
def T52 : List Tab := [⟨0, [2, 3], [], []⟩, ⟨1, [3, 3, 2, 3, 0, 0, 3, 3], [], []⟩, ⟨2, [3, 1], [], []⟩, ⟨3, [3, 3], [], []⟩, ⟨4, [3, 0], [], []⟩, ⟨5, [3, 0, 0, 1, 3], [], []⟩, ⟨6, [3, 0], [], []⟩, ⟨7, [3, 0, 0, 1, 3], [], []⟩, ⟨8, [0, 1, 1], [], []⟩, ⟨9, [3, 3, 0, 0, 1, 1, 3, 0, 1, 3, 0, 0, 1, 1, 3, 3, 3, 3, 0, 0, 1, 1, 3, 1, 3, 2, 0, 3, 3], [0, 0, 2, 6, 14, 31, 63, 127, 255, 127, 639, 1663, 3711, 8191, 16383, 32767, 65535, 65535, 196607, 458751, 983039, 2097151, 4194303, 8388607, 8388607, 33554431, 67108863, 134217727, 268435455], [0, 0, 0, 0, 33554432, 33554432, 0, 0, 33554432, 0, 0, 0, 33554432, 33554432, 0, 0, 0, 0, 0, 0, 33554432, 33554432, 0, 33554432, 0, 0, 0, 0, 0]⟩, ⟨10, [3], [], []⟩, ⟨11, [3, 0, 0, 1, 0, 0, 0, 2], [], []⟩, ⟨12, [3, 3, 3, 3, 0, 0, 2, 0, 0, 2], [], []⟩, ⟨13, [3], [], []⟩]
theorem tk52 : tabsOk Tryd.prog T52 (bodyOf Tryd.prog 52) = true := by kernel_rfl
theorem f52 (call : CallF) (v0 v1 v2 v3 v4 : Value) (h : H) : kCode Tryd.prog call (bodyOf Tryd.prog 52) ⟨#[v0, v1, v2, v3, v4, undef, undef, undef, undef, undef, undef, undef, undef, undef, undef, undef, undef, undef, undef, undef, undef, undef, undef, undef, undef, undef, undef, undef, undef, undef, undef, undef, undef, undef, undef, undef, undef, undef, undef, undef, undef, undef, undef, undef, undef, undef, undef, undef, undef, undef, undef, undef, undef, undef, undef, undef, undef, undef, undef, undef, undef, undef, undef, undef, undef, undef, undef, undef, undef, undef, undef, undef, undef, undef, undef, undef, undef, undef, undef, undef, undef], []⟩ h (kEnd Tryd.prog 52) =
  bd2 (vE Tryd.prog call (.box 26 (.const v2)) 0 h) fun x7 h1 =>
  bd2 (call 30 #[v0, v1] h1) fun x16 h2 =>
  bd1 (vP Tryd.prog (.extract (.const x16) 0) 80) fun x17 =>
  bd1 (vP Tryd.prog (.extract (.const x16) 1) 34) fun x18 =>
  bd1 (vB Tryd.prog .neq 34 (.tmp 19) (.const (.int .i64 0)) x18 (.int .i64 0) h2) fun x20 =>
  ifV x20
    (some (x18, h2))
    (bd1 (vP Tryd.prog (.binOp .lss 3 (.const v3) (.const (.int .i64 0)) 3) 4) fun x23 =>
      ifV x23
        (bd1 (vP Tryd.prog (.nilCheck (.const x17)) 0) fun x25 =>
          bd1 (vP Tryd.prog (.fieldAddr 23 (.const x25) 1) 0) fun x26 =>
          bd1 (vR Tryd.prog (.load 3 (.const x26)) 3 h2) fun x27 =>
          bd1 (vP Tryd.prog (.binOp .lss 3 (.const v4) (.const (.int .i64 0)) 3) 4) fun x29 =>
          ifV x29
            (bd1 (vP Tryd.prog (.nilCheck (.const x17)) 0) fun x31 =>
              bd1 (vP Tryd.prog (.fieldAddr 23 (.const x31) 2) 0) fun x32 =>
              bd1 (vR Tryd.prog (.load 3 (.const x32)) 3 h2) fun x33 =>
              bd1 (vP Tryd.prog (.fieldAddr 26 (.const x7) 0) 0) fun x34 =>
              bd1 (vR Tryd.prog (.load 3 (.const x34)) 3 h2) fun x35 =>
              bd1 (vB Tryd.prog .neq 3 (.tmp 35) (.const (.int .i64 0)) x35 (.int .i64 0) h2) fun x36 =>
              ifV x36
                (bd1 (vP Tryd.prog (.nilCheck (.const x17)) 0) fun x39 =>
                  bd1 (vP Tryd.prog (.fieldAddr 23 (.const x39) 1) 0) fun x40 =>
                  bd1 (vR Tryd.prog (.load 3 (.const x40)) 3 h2) fun x41 =>
                  bd1 (vB Tryd.prog .neq 3 (.tmp 37) (.tmp 41) x27 x41 h2) fun x42 =>
                  ifV x42
                    (same (vR Tryd.prog (.load 3 (.const x40)) 3 h2) x41 <| same (vB Tryd.prog .neq 3 (.tmp 37) (.tmp 41) x27 x41 h2) x42 <| some ((.int .i64 32), h2))
                    (bd1 (vP Tryd.prog (.fieldAddr 26 (.const x7) 0) 0) fun x44 =>
                      bd1 (vR Tryd.prog (.load 3 (.const x44)) 3 h2) fun x45 =>
                      bd1 (vP Tryd.prog (.nilCheck (.const x17)) 0) fun x47 =>
                      bd1 (vP Tryd.prog (.fieldAddr 23 (.const x47) 1) 0) fun x48 =>
                      bd1 (vR Tryd.prog (.load 3 (.const x48)) 3 h2) fun x49 =>
                      bd1 (vB Tryd.prog .neq 3 (.tmp 45) (.tmp 49) x45 x49 h2) fun x50 =>
                      ifV x50
                        (same (vR Tryd.prog (.load 3 (.const x40)) 3 h2) x41 <| same (vB Tryd.prog .neq 3 (.tmp 37) (.tmp 41) x27 x41 h2) x42 <| same (vR Tryd.prog (.load 3 (.const x44)) 3 h2) x45 <| same (vR Tryd.prog (.load 3 (.const x48)) 3 h2) x49 <| same (vB Tryd.prog .neq 3 (.tmp 45) (.tmp 49) x45 x49 h2) x50 <| some ((.int .i64 32), h2))
                        (bd1 (vP Tryd.prog (.nilCheck (.const x17)) 0) fun x55 =>
                          bd1 (vP Tryd.prog (.fieldAddr 23 (.const x55) 2) 0) fun x56 =>
                          bd1 (vR Tryd.prog (.load 3 (.const x56)) 3 h2) fun x57 =>
                          bd1 (vB Tryd.prog .neq 3 (.tmp 53) (.tmp 57) x33 x57 h2) fun x58 =>
                          ifV x58
                            (bd1 (vR Tryd.prog (.load 26 (.const x7)) 26 h2) fun x60 =>
                              same (vR Tryd.prog (.load 3 (.const x40)) 3 h2) x41 <| same (vB Tryd.prog .neq 3 (.tmp 37) (.tmp 41) x27 x41 h2) x42 <| same (vR Tryd.prog (.load 3 (.const x44)) 3 h2) x45 <| same (vR Tryd.prog (.load 3 (.const x48)) 3 h2) x49 <| same (vB Tryd.prog .neq 3 (.tmp 45) (.tmp 49) x45 x49 h2) x50 <| same (vR Tryd.prog (.load 3 (.const x56)) 3 h2) x57 <| same (vB Tryd.prog .neq 3 (.tmp 53) (.tmp 57) x33 x57 h2) x58 <| same (vR Tryd.prog (.load 26 (.const x7)) 26 h2) x60 <| bd2 (call 65 #[x60, x33] h2) fun x62 h3 =>
                              bd1 (vP Tryd.prog (.unOp .not 4 (.const x62)) 4) fun x63 =>
                              ifV x63
                                (some ((.int .i64 32), h3))
                                (bd1 (vP Tryd.prog (.nilCheck (.const x17)) 0) fun x67 =>
                                  bd1 (vP Tryd.prog (.fieldAddr 23 (.const x67) 0) 0) fun x68 =>
                                  bd1 (vR Tryd.prog (.load 3 (.const x68)) 3 h3) fun x69 =>
                                  bd1 (vP Tryd.prog (.binOp .andNot 3 (.const x69) (.const (.int .i64 3072)) 3) 3) fun x70 =>
                                  bd1 (vP Tryd.prog (.nilCheck (.const x17)) 0) fun x71 =>
                                  bd1 (vP Tryd.prog (.fieldAddr 23 (.const x71) 0) 0) fun x72 =>
                                  bd2 (vE Tryd.prog call (.store 3 (.const x72) (.const x70)) 0 h3) fun _ h4 =>
                                  bd1 (vP Tryd.prog (.nilCheck (.const x17)) 0) fun x77 =>
                                  bd1 (vP Tryd.prog (.fieldAddr 23 (.const x77) 1) 0) fun x78 =>
                                  bd2 (vE Tryd.prog call (.store 3 (.const x78) (.const x27)) 0 h4) fun _ h5 =>
                                  bd1 (vP Tryd.prog (.nilCheck (.const x17)) 0) fun x79 =>
                                  bd1 (vP Tryd.prog (.fieldAddr 23 (.const x79) 2) 0) fun x80 =>
                                  bd2 (vE Tryd.prog call (.store 3 (.const x80) (.const x33)) 0 h5) fun _ h6 =>
                                  some ((.int .i64 0), h6)))
                            (same (vR Tryd.prog (.load 3 (.const x40)) 3 h2) x41 <| same (vB Tryd.prog .neq 3 (.tmp 37) (.tmp 41) x27 x41 h2) x42 <| same (vR Tryd.prog (.load 3 (.const x44)) 3 h2) x45 <| same (vR Tryd.prog (.load 3 (.const x48)) 3 h2) x49 <| same (vB Tryd.prog .neq 3 (.tmp 45) (.tmp 49) x45 x49 h2) x50 <| same (vR Tryd.prog (.load 3 (.const x56)) 3 h2) x57 <| same (vB Tryd.prog .neq 3 (.tmp 53) (.tmp 57) x33 x57 h2) x58 <| bd1 (vP Tryd.prog (.nilCheck (.const x17)) 0) fun x67 =>
                              bd1 (vP Tryd.prog (.fieldAddr 23 (.const x67) 0) 0) fun x68 =>
                              bd1 (vR Tryd.prog (.load 3 (.const x68)) 3 h2) fun x69 =>
                              bd1 (vP Tryd.prog (.binOp .andNot 3 (.const x69) (.const (.int .i64 3072)) 3) 3) fun x70 =>
                              bd1 (vP Tryd.prog (.nilCheck (.const x17)) 0) fun x71 =>
                              bd1 (vP Tryd.prog (.fieldAddr 23 (.const x71) 0) 0) fun x72 =>
                              bd2 (vE Tryd.prog call (.store 3 (.const x72) (.const x70)) 0 h2) fun _ h3 =>
                              bd1 (vP Tryd.prog (.nilCheck (.const x17)) 0) fun x77 =>
                              bd1 (vP Tryd.prog (.fieldAddr 23 (.const x77) 1) 0) fun x78 =>
                              bd2 (vE Tryd.prog call (.store 3 (.const x78) (.const x27)) 0 h3) fun _ h4 =>
                              bd1 (vP Tryd.prog (.nilCheck (.const x17)) 0) fun x79 =>
                              bd1 (vP Tryd.prog (.fieldAddr 23 (.const x79) 2) 0) fun x80 =>
                              bd2 (vE Tryd.prog call (.store 3 (.const x80) (.const x33)) 0 h4) fun _ h5 =>
                              some ((.int .i64 0), h5)))))
                (bd1 (vP Tryd.prog (.nilCheck (.const x17)) 0) fun x77 =>
                  bd1 (vP Tryd.prog (.fieldAddr 23 (.const x77) 1) 0) fun x78 =>
                  bd2 (vE Tryd.prog call (.store 3 (.const x78) (.const x27)) 0 h2) fun _ h3 =>
                  bd1 (vP Tryd.prog (.nilCheck (.const x17)) 0) fun x79 =>
                  bd1 (vP Tryd.prog (.fieldAddr 23 (.const x79) 2) 0) fun x80 =>
                  bd2 (vE Tryd.prog call (.store 3 (.const x80) (.const x33)) 0 h3) fun _ h4 =>
                  some ((.int .i64 0), h4)))
            (bd1 (vP Tryd.prog (.fieldAddr 26 (.const x7) 0) 0) fun x34 =>
              bd1 (vR Tryd.prog (.load 3 (.const x34)) 3 h2) fun x35 =>
              bd1 (vB Tryd.prog .neq 3 (.tmp 35) (.const (.int .i64 0)) x35 (.int .i64 0) h2) fun x36 =>
              ifV x36
                (bd1 (vP Tryd.prog (.nilCheck (.const x17)) 0) fun x39 =>
                  bd1 (vP Tryd.prog (.fieldAddr 23 (.const x39) 1) 0) fun x40 =>
                  bd1 (vR Tryd.prog (.load 3 (.const x40)) 3 h2) fun x41 =>
                  bd1 (vB Tryd.prog .neq 3 (.tmp 37) (.tmp 41) x27 x41 h2) fun x42 =>
                  ifV x42
                    (same (vR Tryd.prog (.load 3 (.const x40)) 3 h2) x41 <| same (vB Tryd.prog .neq 3 (.tmp 37) (.tmp 41) x27 x41 h2) x42 <| some ((.int .i64 32), h2))
                    (bd1 (vP Tryd.prog (.fieldAddr 26 (.const x7) 0) 0) fun x44 =>
                      bd1 (vR Tryd.prog (.load 3 (.const x44)) 3 h2) fun x45 =>
                      bd1 (vP Tryd.prog (.nilCheck (.const x17)) 0) fun x47 =>
                      bd1 (vP Tryd.prog (.fieldAddr 23 (.const x47) 1) 0) fun x48 =>
                      bd1 (vR Tryd.prog (.load 3 (.const x48)) 3 h2) fun x49 =>
                      bd1 (vB Tryd.prog .neq 3 (.tmp 45) (.tmp 49) x45 x49 h2) fun x50 =>
                      ifV x50
                        (same (vR Tryd.prog (.load 3 (.const x40)) 3 h2) x41 <| same (vB Tryd.prog .neq 3 (.tmp 37) (.tmp 41) x27 x41 h2) x42 <| same (vR Tryd.prog (.load 3 (.const x44)) 3 h2) x45 <| same (vR Tryd.prog (.load 3 (.const x48)) 3 h2) x49 <| same (vB Tryd.prog .neq 3 (.tmp 45) (.tmp 49) x45 x49 h2) x50 <| some ((.int .i64 32), h2))
                        (bd1 (vP Tryd.prog (.nilCheck (.const x17)) 0) fun x55 =>
                          bd1 (vP Tryd.prog (.fieldAddr 23 (.const x55) 2) 0) fun x56 =>
                          bd1 (vR Tryd.prog (.load 3 (.const x56)) 3 h2) fun x57 =>
                          bd1 (vB Tryd.prog .neq 3 (.tmp 53) (.tmp 57) v4 x57 h2) fun x58 =>
                          ifV x58
                            (bd1 (vR Tryd.prog (.load 26 (.const x7)) 26 h2) fun x60 =>
                              same (vR Tryd.prog (.load 3 (.const x40)) 3 h2) x41 <| same (vB Tryd.prog .neq 3 (.tmp 37) (.tmp 41) x27 x41 h2) x42 <| same (vR Tryd.prog (.load 3 (.const x44)) 3 h2) x45 <| same (vR Tryd.prog (.load 3 (.const x48)) 3 h2) x49 <| same (vB Tryd.prog .neq 3 (.tmp 45) (.tmp 49) x45 x49 h2) x50 <| same (vR Tryd.prog (.load 3 (.const x56)) 3 h2) x57 <| same (vB Tryd.prog .neq 3 (.tmp 53) (.tmp 57) v4 x57 h2) x58 <| same (vR Tryd.prog (.load 26 (.const x7)) 26 h2) x60 <| bd2 (call 65 #[x60, v4] h2) fun x62 h3 =>
                              bd1 (vP Tryd.prog (.unOp .not 4 (.const x62)) 4) fun x63 =>
                              ifV x63
                                (some ((.int .i64 32), h3))
                                (bd1 (vP Tryd.prog (.nilCheck (.const x17)) 0) fun x67 =>
                                  bd1 (vP Tryd.prog (.fieldAddr 23 (.const x67) 0) 0) fun x68 =>
                                  bd1 (vR Tryd.prog (.load 3 (.const x68)) 3 h3) fun x69 =>
                                  bd1 (vP Tryd.prog (.binOp .andNot 3 (.const x69) (.const (.int .i64 3072)) 3) 3) fun x70 =>
                                  bd1 (vP Tryd.prog (.nilCheck (.const x17)) 0) fun x71 =>
                                  bd1 (vP Tryd.prog (.fieldAddr 23 (.const x71) 0) 0) fun x72 =>
                                  bd2 (vE Tryd.prog call (.store 3 (.const x72) (.const x70)) 0 h3) fun _ h4 =>
                                  bd1 (vP Tryd.prog (.nilCheck (.const x17)) 0) fun x77 =>
                                  bd1 (vP Tryd.prog (.fieldAddr 23 (.const x77) 1) 0) fun x78 =>
                                  bd2 (vE Tryd.prog call (.store 3 (.const x78) (.const x27)) 0 h4) fun _ h5 =>
                                  bd1 (vP Tryd.prog (.nilCheck (.const x17)) 0) fun x79 =>
                                  bd1 (vP Tryd.prog (.fieldAddr 23 (.const x79) 2) 0) fun x80 =>
                                  bd2 (vE Tryd.prog call (.store 3 (.const x80) (.const v4)) 0 h5) fun _ h6 =>
                                  some ((.int .i64 0), h6)))
                            (same (vR Tryd.prog (.load 3 (.const x40)) 3 h2) x41 <| same (vB Tryd.prog .neq 3 (.tmp 37) (.tmp 41) x27 x41 h2) x42 <| same (vR Tryd.prog (.load 3 (.const x44)) 3 h2) x45 <| same (vR Tryd.prog (.load 3 (.const x48)) 3 h2) x49 <| same (vB Tryd.prog .neq 3 (.tmp 45) (.tmp 49) x45 x49 h2) x50 <| same (vR Tryd.prog (.load 3 (.const x56)) 3 h2) x57 <| same (vB Tryd.prog .neq 3 (.tmp 53) (.tmp 57) v4 x57 h2) x58 <| bd1 (vP Tryd.prog (.nilCheck (.const x17)) 0) fun x67 =>
                              bd1 (vP Tryd.prog (.fieldAddr 23 (.const x67) 0) 0) fun x68 =>
                              bd1 (vR Tryd.prog (.load 3 (.const x68)) 3 h2) fun x69 =>
                              bd1 (vP Tryd.prog (.binOp .andNot 3 (.const x69) (.const (.int .i64 3072)) 3) 3) fun x70 =>
                              bd1 (vP Tryd.prog (.nilCheck (.const x17)) 0) fun x71 =>
                              bd1 (vP Tryd.prog (.fieldAddr 23 (.const x71) 0) 0) fun x72 =>
                              bd2 (vE Tryd.prog call (.store 3 (.const x72) (.const x70)) 0 h2) fun _ h3 =>
                              bd1 (vP Tryd.prog (.nilCheck (.const x17)) 0) fun x77 =>
                              bd1 (vP Tryd.prog (.fieldAddr 23 (.const x77) 1) 0) fun x78 =>
                              bd2 (vE Tryd.prog call (.store 3 (.const x78) (.const x27)) 0 h3) fun _ h4 =>
                              bd1 (vP Tryd.prog (.nilCheck (.const x17)) 0) fun x79 =>
                              bd1 (vP Tryd.prog (.fieldAddr 23 (.const x79) 2) 0) fun x80 =>
                              bd2 (vE Tryd.prog call (.store 3 (.const x80) (.const v4)) 0 h4) fun _ h5 =>
                              some ((.int .i64 0), h5)))))
                (bd1 (vP Tryd.prog (.nilCheck (.const x17)) 0) fun x77 =>
                  bd1 (vP Tryd.prog (.fieldAddr 23 (.const x77) 1) 0) fun x78 =>
                  bd2 (vE Tryd.prog call (.store 3 (.const x78) (.const x27)) 0 h2) fun _ h3 =>
                  bd1 (vP Tryd.prog (.nilCheck (.const x17)) 0) fun x79 =>
                  bd1 (vP Tryd.prog (.fieldAddr 23 (.const x79) 2) 0) fun x80 =>
                  bd2 (vE Tryd.prog call (.store 3 (.const x80) (.const v4)) 0 h3) fun _ h4 =>
                  some ((.int .i64 0), h4))))
        (bd1 (vP Tryd.prog (.binOp .lss 3 (.const v4) (.const (.int .i64 0)) 3) 4) fun x29 =>
          ifV x29
            (bd1 (vP Tryd.prog (.nilCheck (.const x17)) 0) fun x31 =>
              bd1 (vP Tryd.prog (.fieldAddr 23 (.const x31) 2) 0) fun x32 =>
              bd1 (vR Tryd.prog (.load 3 (.const x32)) 3 h2) fun x33 =>
              bd1 (vP Tryd.prog (.fieldAddr 26 (.const x7) 0) 0) fun x34 =>
              bd1 (vR Tryd.prog (.load 3 (.const x34)) 3 h2) fun x35 =>
              bd1 (vB Tryd.prog .neq 3 (.tmp 35) (.const (.int .i64 0)) x35 (.int .i64 0) h2) fun x36 =>
              ifV x36
                (bd1 (vP Tryd.prog (.nilCheck (.const x17)) 0) fun x39 =>
                  bd1 (vP Tryd.prog (.fieldAddr 23 (.const x39) 1) 0) fun x40 =>
                  bd1 (vR Tryd.prog (.load 3 (.const x40)) 3 h2) fun x41 =>
                  bd1 (vB Tryd.prog .neq 3 (.tmp 37) (.tmp 41) v3 x41 h2) fun x42 =>
                  ifV x42
                    (same (vR Tryd.prog (.load 3 (.const x40)) 3 h2) x41 <| same (vB Tryd.prog .neq 3 (.tmp 37) (.tmp 41) v3 x41 h2) x42 <| some ((.int .i64 32), h2))
                    (bd1 (vP Tryd.prog (.fieldAddr 26 (.const x7) 0) 0) fun x44 =>
                      bd1 (vR Tryd.prog (.load 3 (.const x44)) 3 h2) fun x45 =>
                      bd1 (vP Tryd.prog (.nilCheck (.const x17)) 0) fun x47 =>
                      bd1 (vP Tryd.prog (.fieldAddr 23 (.const x47) 1) 0) fun x48 =>
                      bd1 (vR Tryd.prog (.load 3 (.const x48)) 3 h2) fun x49 =>
                      bd1 (vB Tryd.prog .neq 3 (.tmp 45) (.tmp 49) x45 x49 h2) fun x50 =>
                      ifV x50
                        (same (vR Tryd.prog (.load 3 (.const x40)) 3 h2) x41 <| same (vB Tryd.prog .neq 3 (.tmp 37) (.tmp 41) v3 x41 h2) x42 <| same (vR Tryd.prog (.load 3 (.const x44)) 3 h2) x45 <| same (vR Tryd.prog (.load 3 (.const x48)) 3 h2) x49 <| same (vB Tryd.prog .neq 3 (.tmp 45) (.tmp 49) x45 x49 h2) x50 <| some ((.int .i64 32), h2))
                        (bd1 (vP Tryd.prog (.nilCheck (.const x17)) 0) fun x55 =>
                          bd1 (vP Tryd.prog (.fieldAddr 23 (.const x55) 2) 0) fun x56 =>
                          bd1 (vR Tryd.prog (.load 3 (.const x56)) 3 h2) fun x57 =>
                          bd1 (vB Tryd.prog .neq 3 (.tmp 53) (.tmp 57) x33 x57 h2) fun x58 =>
                          ifV x58
                            (bd1 (vR Tryd.prog (.load 26 (.const x7)) 26 h2) fun x60 =>
                              same (vR Tryd.prog (.load 3 (.const x40)) 3 h2) x41 <| same (vB Tryd.prog .neq 3 (.tmp 37) (.tmp 41) v3 x41 h2) x42 <| same (vR Tryd.prog (.load 3 (.const x44)) 3 h2) x45 <| same (vR Tryd.prog (.load 3 (.const x48)) 3 h2) x49 <| same (vB Tryd.prog .neq 3 (.tmp 45) (.tmp 49) x45 x49 h2) x50 <| same (vR Tryd.prog (.load 3 (.const x56)) 3 h2) x57 <| same (vB Tryd.prog .neq 3 (.tmp 53) (.tmp 57) x33 x57 h2) x58 <| same (vR Tryd.prog (.load 26 (.const x7)) 26 h2) x60 <| bd2 (call 65 #[x60, x33] h2) fun x62 h3 =>
                              bd1 (vP Tryd.prog (.unOp .not 4 (.const x62)) 4) fun x63 =>
                              ifV x63
                                (some ((.int .i64 32), h3))
                                (bd1 (vP Tryd.prog (.nilCheck (.const x17)) 0) fun x67 =>
                                  bd1 (vP Tryd.prog (.fieldAddr 23 (.const x67) 0) 0) fun x68 =>
                                  bd1 (vR Tryd.prog (.load 3 (.const x68)) 3 h3) fun x69 =>
                                  bd1 (vP Tryd.prog (.binOp .andNot 3 (.const x69) (.const (.int .i64 3072)) 3) 3) fun x70 =>
                                  bd1 (vP Tryd.prog (.nilCheck (.const x17)) 0) fun x71 =>
                                  bd1 (vP Tryd.prog (.fieldAddr 23 (.const x71) 0) 0) fun x72 =>
                                  bd2 (vE Tryd.prog call (.store 3 (.const x72) (.const x70)) 0 h3) fun _ h4 =>
                                  bd1 (vP Tryd.prog (.nilCheck (.const x17)) 0) fun x77 =>
                                  bd1 (vP Tryd.prog (.fieldAddr 23 (.const x77) 1) 0) fun x78 =>
                                  bd2 (vE Tryd.prog call (.store 3 (.const x78) (.const v3)) 0 h4) fun _ h5 =>
                                  bd1 (vP Tryd.prog (.nilCheck (.const x17)) 0) fun x79 =>
                                  bd1 (vP Tryd.prog (.fieldAddr 23 (.const x79) 2) 0) fun x80 =>
                                  bd2 (vE Tryd.prog call (.store 3 (.const x80) (.const x33)) 0 h5) fun _ h6 =>
                                  some ((.int .i64 0), h6)))
                            (same (vR Tryd.prog (.load 3 (.const x40)) 3 h2) x41 <| same (vB Tryd.prog .neq 3 (.tmp 37) (.tmp 41) v3 x41 h2) x42 <| same (vR Tryd.prog (.load 3 (.const x44)) 3 h2) x45 <| same (vR Tryd.prog (.load 3 (.const x48)) 3 h2) x49 <| same (vB Tryd.prog .neq 3 (.tmp 45) (.tmp 49) x45 x49 h2) x50 <| same (vR Tryd.prog (.load 3 (.const x56)) 3 h2) x57 <| same (vB Tryd.prog .neq 3 (.tmp 53) (.tmp 57) x33 x57 h2) x58 <| bd1 (vP Tryd.prog (.nilCheck (.const x17)) 0) fun x67 =>
                              bd1 (vP Tryd.prog (.fieldAddr 23 (.const x67) 0) 0) fun x68 =>
                              bd1 (vR Tryd.prog (.load 3 (.const x68)) 3 h2) fun x69 =>
                              bd1 (vP Tryd.prog (.binOp .andNot 3 (.const x69) (.const (.int .i64 3072)) 3) 3) fun x70 =>
                              bd1 (vP Tryd.prog (.nilCheck (.const x17)) 0) fun x71 =>
                              bd1 (vP Tryd.prog (.fieldAddr 23 (.const x71) 0) 0) fun x72 =>
                              bd2 (vE Tryd.prog call (.store 3 (.const x72) (.const x70)) 0 h2) fun _ h3 =>
                              bd1 (vP Tryd.prog (.nilCheck (.const x17)) 0) fun x77 =>
                              bd1 (vP Tryd.prog (.fieldAddr 23 (.const x77) 1) 0) fun x78 =>
                              bd2 (vE Tryd.prog call (.store 3 (.const x78) (.const v3)) 0 h3) fun _ h4 =>
                              bd1 (vP Tryd.prog (.nilCheck (.const x17)) 0) fun x79 =>
                              bd1 (vP Tryd.prog (.fieldAddr 23 (.const x79) 2) 0) fun x80 =>
                              bd2 (vE Tryd.prog call (.store 3 (.const x80) (.const x33)) 0 h4) fun _ h5 =>
                              some ((.int .i64 0), h5)))))
                (bd1 (vP Tryd.prog (.nilCheck (.const x17)) 0) fun x77 =>
                  bd1 (vP Tryd.prog (.fieldAddr 23 (.const x77) 1) 0) fun x78 =>
                  bd2 (vE Tryd.prog call (.store 3 (.const x78) (.const v3)) 0 h2) fun _ h3 =>
                  bd1 (vP Tryd.prog (.nilCheck (.const x17)) 0) fun x79 =>
                  bd1 (vP Tryd.prog (.fieldAddr 23 (.const x79) 2) 0) fun x80 =>
                  bd2 (vE Tryd.prog call (.store 3 (.const x80) (.const x33)) 0 h3) fun _ h4 =>
                  some ((.int .i64 0), h4)))
            (bd1 (vP Tryd.prog (.fieldAddr 26 (.const x7) 0) 0) fun x34 =>
              bd1 (vR Tryd.prog (.load 3 (.const x34)) 3 h2) fun x35 =>
              bd1 (vB Tryd.prog .neq 3 (.tmp 35) (.const (.int .i64 0)) x35 (.int .i64 0) h2) fun x36 =>
              ifV x36
                (bd1 (vP Tryd.prog (.nilCheck (.const x17)) 0) fun x39 =>
                  bd1 (vP Tryd.prog (.fieldAddr 23 (.const x39) 1) 0) fun x40 =>
                  bd1 (vR Tryd.prog (.load 3 (.const x40)) 3 h2) fun x41 =>
                  bd1 (vB Tryd.prog .neq 3 (.tmp 37) (.tmp 41) v3 x41 h2) fun x42 =>
                  ifV x42
                    (same (vR Tryd.prog (.load 3 (.const x40)) 3 h2) x41 <| same (vB Tryd.prog .neq 3 (.tmp 37) (.tmp 41) v3 x41 h2) x42 <| some ((.int .i64 32), h2))
                    (bd1 (vP Tryd.prog (.fieldAddr 26 (.const x7) 0) 0) fun x44 =>
                      bd1 (vR Tryd.prog (.load 3 (.const x44)) 3 h2) fun x45 =>
                      bd1 (vP Tryd.prog (.nilCheck (.const x17)) 0) fun x47 =>
                      bd1 (vP Tryd.prog (.fieldAddr 23 (.const x47) 1) 0) fun x48 =>
                      bd1 (vR Tryd.prog (.load 3 (.const x48)) 3 h2) fun x49 =>
                      bd1 (vB Tryd.prog .neq 3 (.tmp 45) (.tmp 49) x45 x49 h2) fun x50 =>
                      ifV x50
                        (same (vR Tryd.prog (.load 3 (.const x40)) 3 h2) x41 <| same (vB Tryd.prog .neq 3 (.tmp 37) (.tmp 41) v3 x41 h2) x42 <| same (vR Tryd.prog (.load 3 (.const x44)) 3 h2) x45 <| same (vR Tryd.prog (.load 3 (.const x48)) 3 h2) x49 <| same (vB Tryd.prog .neq 3 (.tmp 45) (.tmp 49) x45 x49 h2) x50 <| some ((.int .i64 32), h2))
                        (bd1 (vP Tryd.prog (.nilCheck (.const x17)) 0) fun x55 =>
                          bd1 (vP Tryd.prog (.fieldAddr 23 (.const x55) 2) 0) fun x56 =>
                          bd1 (vR Tryd.prog (.load 3 (.const x56)) 3 h2) fun x57 =>
                          bd1 (vB Tryd.prog .neq 3 (.tmp 53) (.tmp 57) v4 x57 h2) fun x58 =>
                          ifV x58
                            (bd1 (vR Tryd.prog (.load 26 (.const x7)) 26 h2) fun x60 =>
                              same (vR Tryd.prog (.load 3 (.const x40)) 3 h2) x41 <| same (vB Tryd.prog .neq 3 (.tmp 37) (.tmp 41) v3 x41 h2) x42 <| same (vR Tryd.prog (.load 3 (.const x44)) 3 h2) x45 <| same (vR Tryd.prog (.load 3 (.const x48)) 3 h2) x49 <| same (vB Tryd.prog .neq 3 (.tmp 45) (.tmp 49) x45 x49 h2) x50 <| same (vR Tryd.prog (.load 3 (.const x56)) 3 h2) x57 <| same (vB Tryd.prog .neq 3 (.tmp 53) (.tmp 57) v4 x57 h2) x58 <| same (vR Tryd.prog (.load 26 (.const x7)) 26 h2) x60 <| bd2 (call 65 #[x60, v4] h2) fun x62 h3 =>
                              bd1 (vP Tryd.prog (.unOp .not 4 (.const x62)) 4) fun x63 =>
                              ifV x63
                                (some ((.int .i64 32), h3))
                                (bd1 (vP Tryd.prog (.nilCheck (.const x17)) 0) fun x67 =>
                                  bd1 (vP Tryd.prog (.fieldAddr 23 (.const x67) 0) 0) fun x68 =>
                                  bd1 (vR Tryd.prog (.load 3 (.const x68)) 3 h3) fun x69 =>
                                  bd1 (vP Tryd.prog (.binOp .andNot 3 (.const x69) (.const (.int .i64 3072)) 3) 3) fun x70 =>
                                  bd1 (vP Tryd.prog (.nilCheck (.const x17)) 0) fun x71 =>
                                  bd1 (vP Tryd.prog (.fieldAddr 23 (.const x71) 0) 0) fun x72 =>
                                  bd2 (vE Tryd.prog call (.store 3 (.const x72) (.const x70)) 0 h3) fun _ h4 =>
                                  bd1 (vP Tryd.prog (.nilCheck (.const x17)) 0) fun x77 =>
                                  bd1 (vP Tryd.prog (.fieldAddr 23 (.const x77) 1) 0) fun x78 =>
                                  bd2 (vE Tryd.prog call (.store 3 (.const x78) (.const v3)) 0 h4) fun _ h5 =>
                                  bd1 (vP Tryd.prog (.nilCheck (.const x17)) 0) fun x79 =>
                                  bd1 (vP Tryd.prog (.fieldAddr 23 (.const x79) 2) 0) fun x80 =>
                                  bd2 (vE Tryd.prog call (.store 3 (.const x80) (.const v4)) 0 h5) fun _ h6 =>
                                  some ((.int .i64 0), h6)))
                            (same (vR Tryd.prog (.load 3 (.const x40)) 3 h2) x41 <| same (vB Tryd.prog .neq 3 (.tmp 37) (.tmp 41) v3 x41 h2) x42 <| same (vR Tryd.prog (.load 3 (.const x44)) 3 h2) x45 <| same (vR Tryd.prog (.load 3 (.const x48)) 3 h2) x49 <| same (vB Tryd.prog .neq 3 (.tmp 45) (.tmp 49) x45 x49 h2) x50 <| same (vR Tryd.prog (.load 3 (.const x56)) 3 h2) x57 <| same (vB Tryd.prog .neq 3 (.tmp 53) (.tmp 57) v4 x57 h2) x58 <| bd1 (vP Tryd.prog (.nilCheck (.const x17)) 0) fun x67 =>
                              bd1 (vP Tryd.prog (.fieldAddr 23 (.const x67) 0) 0) fun x68 =>
                              bd1 (vR Tryd.prog (.load 3 (.const x68)) 3 h2) fun x69 =>
                              bd1 (vP Tryd.prog (.binOp .andNot 3 (.const x69) (.const (.int .i64 3072)) 3) 3) fun x70 =>
                              bd1 (vP Tryd.prog (.nilCheck (.const x17)) 0) fun x71 =>
                              bd1 (vP Tryd.prog (.fieldAddr 23 (.const x71) 0) 0) fun x72 =>
                              bd2 (vE Tryd.prog call (.store 3 (.const x72) (.const x70)) 0 h2) fun _ h3 =>
                              bd1 (vP Tryd.prog (.nilCheck (.const x17)) 0) fun x77 =>
                              bd1 (vP Tryd.prog (.fieldAddr 23 (.const x77) 1) 0) fun x78 =>
                              bd2 (vE Tryd.prog call (.store 3 (.const x78) (.const v3)) 0 h3) fun _ h4 =>
                              bd1 (vP Tryd.prog (.nilCheck (.const x17)) 0) fun x79 =>
                              bd1 (vP Tryd.prog (.fieldAddr 23 (.const x79) 2) 0) fun x80 =>
                              bd2 (vE Tryd.prog call (.store 3 (.const x80) (.const v4)) 0 h4) fun _ h5 =>
                              some ((.int .i64 0), h5)))))
                (bd1 (vP Tryd.prog (.nilCheck (.const x17)) 0) fun x77 =>
                  bd1 (vP Tryd.prog (.fieldAddr 23 (.const x77) 1) 0) fun x78 =>
                  bd2 (vE Tryd.prog call (.store 3 (.const x78) (.const v3)) 0 h2) fun _ h3 =>
                  bd1 (vP Tryd.prog (.nilCheck (.const x17)) 0) fun x79 =>
                  bd1 (vP Tryd.prog (.fieldAddr 23 (.const x79) 2) 0) fun x80 =>
                  bd2 (vE Tryd.prog call (.store 3 (.const x80) (.const v4)) 0 h3) fun _ h4 =>
                  some ((.int .i64 0), h4))))) := textL T52 81 tk52 rfl (by kernel_rfl)


/-! 54: (*orpiment/attributes.Table).Link -/
def T54 : List Tab := [⟨0, [3], [], []⟩, ⟨1, [3, 3, 2, 3, 0, 0, 3, 3], [], []⟩, ⟨2, [3, 1], [], []⟩, ⟨3, [3, 3], [], []⟩, ⟨4, [3, 0, 0, 1, 0], [], []⟩, ⟨5, [3], [], []⟩, ⟨6, [3, 0, 0, 1, 0, 0, 0, 2], [], []⟩, ⟨7, [3], [], []⟩]
theorem tk54 : tabsOk Tryd.prog T54 (bodyOf Tryd.prog 54) = true := by kernel_rfl
theorem f54 (call : CallF) (v0 v1 : Value) (h : H) : kCode Tryd.prog call (bodyOf Tryd.prog 54) ⟨#[v0, v1, undef, undef, undef, undef, undef, undef, undef, undef, undef, undef, undef, undef, undef, undef, undef, undef, undef, undef, undef, undef, undef, undef, undef, undef, undef, undef], []⟩ h (kEnd Tryd.prog 54) =
  bd2 (call 30 #[v0, v1] h) fun x10 h1 =>
  bd1 (vP Tryd.prog (.extract (.const x10) 0) 80) fun x11 =>
  bd1 (vP Tryd.prog (.extract (.const x10) 1) 34) fun x12 =>
  bd1 (vB Tryd.prog .neq 34 (.tmp 13) (.const (.int .i64 0)) x12 (.int .i64 0) h1) fun x14 =>
  ifV x14
    (some (x12, h1))
    (bd1 (vP Tryd.prog (.nilCheck (.const x11)) 0) fun x17 =>
      bd1 (vP Tryd.prog (.fieldAddr 23 (.const x17) 4) 0) fun x18 =>
      bd1 (vR Tryd.prog (.load 3 (.const x18)) 3 h1) fun x19 =>
      bd1 (vP Tryd.prog (.binOp .geq 3 (.const x19) (.const (.int .i64 1000)) 3) 4) fun x20 =>
      ifV x20
        (some ((.int .i64 18), h1))
        (bd1 (vP Tryd.prog (.nilCheck (.const x11)) 0) fun x22 =>
          bd1 (vP Tryd.prog (.fieldAddr 23 (.const x22) 4) 0) fun x23 =>
          bd1 (vR Tryd.prog (.load 3 (.const x23)) 3 h1) fun x24 =>
          bd1 (vP Tryd.prog (.binOp .add 3 (.const x24) (.const (.int .i64 1)) 3) 3) fun x25 =>
          bd1 (vP Tryd.prog (.nilCheck (.const x11)) 0) fun x26 =>
          bd1 (vP Tryd.prog (.fieldAddr 23 (.const x26) 4) 0) fun x27 =>
          bd2 (vE Tryd.prog call (.store 3 (.const x27) (.const x25)) 0 h1) fun _ h2 =>
          some ((.int .i64 0), h2))) := textL T54 28 tk54 rfl (by kernel_rfl)


/-! 56: (*orpiment/attributes.Table).Unlink -/
def T56 : List Tab := [⟨0, [3, 3], [], []⟩, ⟨1, [3, 3, 2, 3, 0, 0, 3, 3], [], []⟩, ⟨2, [3, 1], [], []⟩, ⟨3, [3, 3, 3], [], []⟩, ⟨4, [3, 0, 0, 1, 1], [], []⟩, ⟨5, [3, 3], [], []⟩, ⟨6, [3, 0, 0, 1, 0, 0, 0, 2], [], []⟩, ⟨7, [3, 3, 2, 3, 3], [], []⟩]
theorem tk56 : tabsOk Tryd.prog T56 (bodyOf Tryd.prog 56) = true := by kernel_rfl
theorem f56 (call : CallF) (v0 v1 : Value) (h : H) : kCode Tryd.prog call (bodyOf Tryd.prog 56) ⟨#[v0, v1, undef, undef, undef, undef, undef, undef, undef, undef, undef, undef, undef, undef, undef, undef, undef, undef, undef, undef, undef, undef, undef, undef, undef, undef, undef, undef, undef, undef, undef, undef], []⟩ h (kEnd Tryd.prog 56) =
  bd2 (call 30 #[v0, v1] h) fun x11 h1 =>
  bd1 (vP Tryd.prog (.extract (.const x11) 0) 80) fun x12 =>
  bd1 (vP Tryd.prog (.extract (.const x11) 1) 34) fun x13 =>
  bd1 (vB Tryd.prog .neq 34 (.tmp 14) (.const (.int .i64 0)) x13 (.int .i64 0) h1) fun x15 =>
  ifV x15
    (some (.tuple #[(.bool false), x13], h1))
    (bd1 (vP Tryd.prog (.nilCheck (.const x12)) 0) fun x18 =>
      bd1 (vP Tryd.prog (.fieldAddr 23 (.const x18) 4) 0) fun x19 =>
      bd1 (vR Tryd.prog (.load 3 (.const x19)) 3 h1) fun x20 =>
      bd1 (vB Tryd.prog .eql 3 (.tmp 20) (.const (.int .i64 0)) x20 (.int .i64 0) h1) fun x21 =>
      ifV x21
        (some (.tuple #[(.bool false), (.int .i64 35)], h1))
        (bd1 (vP Tryd.prog (.nilCheck (.const x12)) 0) fun x23 =>
          bd1 (vP Tryd.prog (.fieldAddr 23 (.const x23) 4) 0) fun x24 =>
          bd1 (vR Tryd.prog (.load 3 (.const x24)) 3 h1) fun x25 =>
          bd1 (vP Tryd.prog (.binOp .sub 3 (.const x25) (.const (.int .i64 1)) 3) 3) fun x26 =>
          bd1 (vP Tryd.prog (.nilCheck (.const x12)) 0) fun x27 =>
          bd1 (vP Tryd.prog (.fieldAddr 23 (.const x27) 4) 0) fun x28 =>
          bd2 (vE Tryd.prog call (.store 3 (.const x28) (.const x26)) 0 h1) fun _ h2 =>
          bd2 (call 68 #[v0, v1] h2) fun x31 h3 =>
          some (.tuple #[x31, (.int .i64 0)], h3))) := textL T56 32 tk56 rfl (by kernel_rfl)


/-! 59: (*orpiment/attributes.Table).Objects$1 -/
def T59 : List Tab := [⟨0, [3], [], []⟩, ⟨1, [3], [], []⟩]
theorem tk59 : tabsOk Tryd.prog T59 (bodyOf Tryd.prog 59) = true := by kernel_rfl
theorem f59 (call : CallF) (v0 : Value) (h : H) : kCode Tryd.prog call (bodyOf Tryd.prog 59) ⟨#[v0, undef, undef], []⟩ h (kEnd Tryd.prog 59) =
  some ((.bool true), h) := textL T59 3 tk59 rfl (by kernel_rfl)


/-! 60: (*orpiment/attributes.Table).Opens$1 -/
def T60 : List Tab := [⟨0, [3], [], []⟩, ⟨1, [3, 0, 0, 1, 1, 1, 3], [0, 1, 3, 7, 0, 31, 63], [0, 0, 0, 128, 128, 128, 0]⟩]
theorem tk60 : tabsOk Tryd.prog T60 (bodyOf Tryd.prog 60) = true := by kernel_rfl
theorem f60 (call : CallF) (v0 v1 : Value) (h : H) : kCode Tryd.prog call (bodyOf Tryd.prog 60) ⟨#[v0, v1, undef, undef, undef, undef, undef, undef, undef, undef], []⟩ h (kEnd Tryd.prog 60) =
  bd1 (vP Tryd.prog (.nilCheck (.const v0)) 0) fun x5 =>
  bd1 (vP Tryd.prog (.fieldAddr 39 (.const x5) 0) 0) fun x6 =>
  bd1 (vR Tryd.prog (.load 3 (.const x6)) 3 h) fun x7 =>
  bd1 (vR Tryd.prog (.load 3 (.const v1)) 3 h) fun x8 =>
  bd1 (vB Tryd.prog .eql 3 (.tmp 7) (.tmp 8) x7 x8 h) fun x9 =>
  same (vR Tryd.prog (.load 3 (.const x6)) 3 h) x7 <| same (vR Tryd.prog (.load 3 (.const v1)) 3 h) x8 <| same (vB Tryd.prog .eql 3 (.tmp 7) (.tmp 8) x7 x8 h) x9 <| some (x9, h) := textL T60 10 tk60 rfl (by kernel_rfl)


/-! 61: (*orpiment/attributes.Table).block -/
def T61 : List Tab := [⟨0, [3, 3, 3], [], []⟩, ⟨1, [3, 1], [], []⟩, ⟨2, [3, 3, 3], [], []⟩, ⟨3, [3, 0, 0, 0, 0, 1, 3, 1, 3, 0, 0, 3, 3], [], []⟩, ⟨4, [3, 0], [], []⟩, ⟨5, [3, 3, 3], [], []⟩, ⟨6, [3, 3, 0, 0, 0, 1, 3, 0, 0, 1, 1, 3, 3, 3], [0, 0, 2, 6, 14, 30, 0, 64, 192, 448, 1022, 1, 4095, 8191], [0, 0, 0, 0, 0, 16384, 0, 0, 0, 16384, 16384, 0, 0, 0]⟩]
theorem tk61 : tabsOk Tryd.prog T61 (bodyOf Tryd.prog 61) = true := by kernel_rfl
theorem f61 (call : CallF) (v0 v1 : Value) (h : H) : kCode Tryd.prog call (bodyOf Tryd.prog 61) ⟨#[v0, v1, undef, undef, undef, undef, undef, undef, undef, undef, undef, undef, undef, undef, undef, undef, undef, undef, undef, undef, undef, undef, undef, undef, undef, undef, undef, undef, undef, undef, undef, undef, undef, undef, undef], []⟩ h (kEnd Tryd.prog 61) =
  bd1 (vB Tryd.prog .eql 32 (.tmp 9) (.const (.pointer none)) v0 (.pointer none) h) fun x10 =>
  ifV x10
    (some (.tuple #[(.pointer none), (.pointer none), (.int .i64 35)], h))
    (bd1 (vP Tryd.prog (.nilCheck (.const v0)) 0) fun x13 =>
      bd1 (vP Tryd.prog (.fieldAddr 78 (.const x13) 0) 0) fun x14 =>
      bd1 (vP Tryd.prog (.fieldAddr 73 (.const x14) 0) 0) fun x15 =>
      bd1 (vP Tryd.prog (.fieldAddr 71 (.const x15) 0) 0) fun x16 =>
      bd1 (vR Tryd.prog (.load 69 (.const x16)) 69 h) fun x17 =>
      bd1 (vR Tryd.prog (.lookup 69 (.const x17) (.const v1) true) 123 h) fun x19 =>
      bd1 (vP Tryd.prog (.extract (.const x19) 0) 83) fun x20 =>
      bd1 (vP Tryd.prog (.extract (.const x19) 1) 4) fun x21 =>
      bd1 (vP Tryd.prog (.unOp .not 4 (.const x21)) 4) fun x23 =>
      ifV x23
        (some (.tuple #[(.pointer none), (.pointer none), (.int .i64 3)], h))
        (bd1 (vP Tryd.prog (.nilCheck (.const v0)) 0) fun x26 =>
          bd1 (vP Tryd.prog (.fieldAddr 78 (.const x26) 1) 0) fun x27 =>
          bd1 (vP Tryd.prog (.fieldAddr 76 (.const x27) 0) 0) fun x28 =>
          bd1 (vR Tryd.prog (.load 74 (.const x28)) 74 h) fun x29 =>
          bd1 (vP Tryd.prog (.nilCheck (.const x20)) 0) fun x31 =>
          bd1 (vP Tryd.prog (.fieldAddr 39 (.const x31) 0) 0) fun x32 =>
          bd1 (vR Tryd.prog (.load 3 (.const x32)) 3 h) fun x33 =>
          bd1 (vR Tryd.prog (.lookup 74 (.const x29) (.const x33) false) 80 h) fun x34 =>
          same (vR Tryd.prog (.load 74 (.const x28)) 74 h) x29 <| same (vR Tryd.prog (.load 3 (.const x32)) 3 h) x33 <| same (vR Tryd.prog (.lookup 74 (.const x29) (.const x33) false) 80 h) x34 <| some (.tuple #[x20, x34, (.int .i64 0)], h))) := textL T61 35 tk61 rfl (by kernel_rfl)


/-! 65: orpiment/attributes.member -/
def T65 : List Tab := [⟨0, [2, 3], [], []⟩, ⟨1, [0, 1, 3, 1, 3, 0, 1, 3, 2, 3, 3], [], []⟩]
theorem tk65 : tabsOk Tryd.prog T65 (bodyOf Tryd.prog 65) = true := by kernel_rfl
theorem f65 (call : CallF) (v0 v1 : Value) (h : H) : kCode Tryd.prog call (bodyOf Tryd.prog 65) ⟨#[v0, v1, undef, undef, undef, undef, undef, undef, undef, undef, undef, undef, undef, undef, undef], []⟩ h (kEnd Tryd.prog 65) =
  bd2 (vE Tryd.prog call (.box 26 (.const v0)) 0 h) fun x2 h1 =>
  bd1 (vP Tryd.prog (.fieldAddr 26 (.const x2) 1) 0) fun x5 =>
  bd1 (vR Tryd.prog (.load 3 (.const x5)) 3 h1) fun x6 =>
  bd1 (vB Tryd.prog .eql 3 (.tmp 6) (.tmp 7) x6 v1 h1) fun x8 =>
  ifV x8
    (some ((.bool true), h1))
    (bd1 (vP Tryd.prog (.fieldAddr 26 (.const x2) 2) 0) fun x10 =>
      bd1 (vR Tryd.prog (.load 24 (.const x10)) 24 h1) fun x11 =>
      bd2 (call 71 #[x11, v1] h1) fun x13 h2 =>
      some (x13, h2)) := textL T65 15 tk65 rfl (by kernel_rfl)


/-! 68: (*orpiment/attributes.Table).sweep -/
def T68 : List Tab := [⟨0, [3], [], []⟩, ⟨1, [3, 0, 0, 0, 1, 3, 1, 0, 0, 1, 0, 3, 3, 3, 2, 1, 0, 3], [], []⟩, ⟨2, [3], [], []⟩, ⟨3, [3, 0, 0, 0, 1, 3, 2], [], []⟩, ⟨4, [3], [], []⟩]
theorem tk68 : tabsOk Tryd.prog T68 (bodyOf Tryd.prog 68) = true := by kernel_rfl
theorem f68 (call : CallF) (v0 v1 : Value) (h : H) : kCode Tryd.prog call (bodyOf Tryd.prog 68) ⟨#[v0, v1, undef, undef, undef, undef, undef, undef, undef, undef, undef, undef, undef, undef, undef, undef, undef, undef, undef, undef, undef, undef, undef, undef, undef, undef, undef, undef, undef], []⟩ h (kEnd Tryd.prog 68) =
  bd1 (vP Tryd.prog (.nilCheck (.const v0)) 0) fun x6 =>
  bd1 (vP Tryd.prog (.fieldAddr 78 (.const x6) 1) 0) fun x7 =>
  bd1 (vP Tryd.prog (.fieldAddr 76 (.const x7) 0) 0) fun x8 =>
  bd1 (vR Tryd.prog (.load 74 (.const x8)) 74 h) fun x9 =>
  bd1 (vR Tryd.prog (.lookup 74 (.const x9) (.const v1) false) 80 h) fun x11 =>
  bd1 (vP Tryd.prog (.nilCheck (.const x11)) 0) fun x12 =>
  bd1 (vP Tryd.prog (.fieldAddr 23 (.const x12) 4) 0) fun x13 =>
  bd1 (vR Tryd.prog (.load 3 (.const x13)) 3 h) fun x14 =>
  bd1 (vP Tryd.prog (.binOp .gtr 3 (.const x14) (.const (.int .i64 0)) 3) 4) fun x15 =>
  ifV x15
    (some ((.bool false), h))
    (bd2 (call 20 #[v0, v1] h) fun x19 h1 =>
      bd1 (vR Tryd.prog (.call ⟨.builtin .len, #[(.const x19)], #[24]⟩) 3 h1) fun x20 =>
      bd1 (vP Tryd.prog (.binOp .gtr 3 (.const x20) (.const (.int .i64 0)) 3) 4) fun x21 =>
      ifV x21
        (some ((.bool false), h1))
        (bd1 (vP Tryd.prog (.nilCheck (.const v0)) 0) fun x24 =>
          bd1 (vP Tryd.prog (.fieldAddr 78 (.const x24) 1) 0) fun x25 =>
          bd1 (vP Tryd.prog (.fieldAddr 76 (.const x25) 0) 0) fun x26 =>
          bd1 (vR Tryd.prog (.load 74 (.const x26)) 74 h1) fun x27 =>
          bd2 (vE Tryd.prog call (.call ⟨.builtin .delete, #[(.const x27), (.const v1)], #[74, 3]⟩) 0 h1) fun _ h2 =>
          some ((.bool true), h2))) := textL T68 29 tk68 rfl (by kernel_rfl)


/-! 71: slices.Contains[[]int,int] -/
def T71 : List Tab := [⟨0, [3], [], []⟩, ⟨1, [3, 3, 2, 0, 3], [], []⟩]
theorem tk71 : tabsOk Tryd.prog T71 (bodyOf Tryd.prog 71) = true := by kernel_rfl
theorem f71 (call : CallF) (v0 v1 : Value) (h : H) : kCode Tryd.prog call (bodyOf Tryd.prog 71) ⟨#[v0, v1, undef, undef, undef, undef, undef, undef, undef], []⟩ h (kEnd Tryd.prog 71) =
  bd2 (call 74 #[v0, v1] h) fun x7 h1 =>
  bd1 (vP Tryd.prog (.binOp .geq 3 (.const x7) (.const (.int .i64 0)) 3) 4) fun x8 =>
  some (x8, h1) := textL T71 9 tk71 rfl (by kernel_rfl)


/-! 74: slices.Index[[]int,int] -/
def T74 : List Tab := [⟨0, [3], [], []⟩, ⟨1, [3, 1, 3], [], []⟩, ⟨2, [0], [], []⟩, ⟨3, [3, 3], [], []⟩, ⟨4, [3, 3, 3, 0, 1, 1], [], []⟩, ⟨5, [3, 3], [], []⟩, ⟨6, [0, 3], [], []⟩, ⟨7, [3], [], []⟩]
theorem tk74 : tabsOk Tryd.prog T74 (bodyOf Tryd.prog 74) = true := by kernel_rfl
theorem f74 (call : CallF) (v0 v1 : Value) (h : H) : kCode Tryd.prog call (bodyOf Tryd.prog 74) ⟨#[v0, v1, undef, undef, undef, undef, undef, undef, undef, undef, undef, undef, undef, undef, undef, undef, undef, undef, undef], []⟩ h (kEnd Tryd.prog 74) =
  bd1 (vR Tryd.prog (.call ⟨.builtin .len, #[(.const v0)], #[24]⟩) 3 h) fun x7 =>
  kCode Tryd.prog call (codeAt (bodyOf Tryd.prog 74) [1, 0, 1, 0]) ⟨#[v0, v1, undef, undef, (.int .i64 0), undef, v0, x7, (.int .i64 0), undef, undef, undef, undef, undef, undef, undef, undef, undef, undef], []⟩ h (kPath Tryd.prog call (bodyOf Tryd.prog 74) [1, 0, 1, 0] (kEnd Tryd.prog 74)) := textL T74 19 tk74 rfl (by kernel_rfl)
theorem f74_l1010 (call : CallF) (v0 v1 v2 v3 v4 v5 v6 v7 v8 v9 v10 v11 v12 v13 v14 v15 v16 v17 v18 : Value) (h : H) (k : Exit → Act → H → Option (Value × H)) : kCode Tryd.prog call (codeAt (bodyOf Tryd.prog 74) [1, 0, 1, 0, 0]) ⟨#[v0, v1, v2, v3, v4, v5, v6, v7, v8, v9, v10, v11, v12, v13, v14, v15, v16, v17, v18], []⟩ h (again Tryd.prog call (codeAt (bodyOf Tryd.prog 74) [1, 0, 1, 0, 0]) k) =
  bd1 (vP Tryd.prog (.binOp .lss 3 (.const v8) (.const v7) 3) 0) fun x9 =>
  ifV x9
    (bd1 (vP Tryd.prog (.indexAddr 24 (.const v0) (.const v8)) 0) fun x14 =>
      bd1 (vR Tryd.prog (.load 3 (.const x14)) 3 h) fun x15 =>
      bd1 (vB Tryd.prog .eql 3 (.tmp 11) (.tmp 15) v1 x15 h) fun x16 =>
      ifV x16
        (k .ret ⟨#[v0, v1, v2, v3, v8, v8, v6, v7, v8, (.bool true), v8, v1, v0, v8, x14, x15, (.bool true), v8, v18], []⟩ h)
        (bd1 (vP Tryd.prog (.binOp .add 3 (.const v8) (.const (.int .i64 1)) 3) 3) fun x18 =>
          kCode Tryd.prog call (codeAt (bodyOf Tryd.prog 74) [1, 0, 1, 0]) ⟨#[v0, v1, v2, v3, v4, v8, v6, v7, x18, (.bool true), v8, v1, v0, v8, x14, x15, (.bool false), v17, x18], []⟩ h k))
    (k (.exit 0) ⟨#[v0, v1, v2, v3, v4, v5, v6, v7, v8, (.bool false), v10, v11, v12, v13, v14, v15, v16, v17, v18], []⟩ h) := roundL T74 19 (tabs_at _ _ tk74) rfl (by kernel_rfl)
theorem f74_l1010_eq : (codeAt (bodyOf Tryd.prog 74) [1, 0, 1, 0]) = .loop (codeAt (bodyOf Tryd.prog 74) [1, 0, 1, 0, 0]) := by kernel_rfl
theorem f74_l1010_E0 (call : CallF) (v0 v1 v2 v3 v4 v5 v6 v7 v8 v9 v10 v11 v12 v13 v14 v15 v16 v17 v18 : Value) (h : H) : kPath Tryd.prog call (bodyOf Tryd.prog 74) [1, 0, 1, 0] (kEnd Tryd.prog 74) (.exit 0) ⟨#[v0, v1, v2, v3, v4, v5, v6, v7, v8, v9, v10, v11, v12, v13, v14, v15, v16, v17, v18], []⟩ h =
  some ((.int .i64 (-1)), h) := behindL T74 19 tk74 rfl (by kernel_rfl)
theorem f74_l1010_R (call : CallF) (v0 v1 v2 v3 v4 v5 v6 v7 v8 v9 v10 v11 v12 v13 v14 v15 v16 v17 v18 : Value) (h : H) : kPath Tryd.prog call (bodyOf Tryd.prog 74) [1, 0, 1, 0] (kEnd Tryd.prog 74) .ret ⟨#[v0, v1, v2, v3, v4, v5, v6, v7, v8, v9, v10, v11, v12, v13, v14, v15, v16, v17, v18], []⟩ h =
  some (v4, h) := behindL T74 19 tk74 rfl (by kernel_rfl)

end Go.Proofs.YtfmikgbachnneaaDoor
