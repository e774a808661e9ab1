/- texts -/
import Derived.Test.YtfmikgbachnneaaDoorChecked
import Derived.Test.YtfmikgbachnneaaDoorAm13
namespace Go.Proofs.YtfmikgbachnneaaDoor
open Go Go.Am
set_option maxRecDepth 100000

/-! 3: orpiment/orpimentlaw20.AttributesAllowed -/
theorem f3 (call : CallF) (v0 v1 v2 : Value) (h : H) : kCode Tryd.prog call (bodyOf Tryd.prog 3) ⟨#[v0, v1, v2, undef, undef, undef, undef, undef, undef, undef, undef, undef, undef, undef, undef, undef, undef, undef, undef, undef, undef, undef, undef, undef], []⟩ h (kEnd Tryd.prog 3) =
  bd2 (vE Tryd.prog call (.box 23 (.const v0)) 0 h) fun x3 h1 =>
  bd2 (vE Tryd.prog call (.box 26 (.const v1)) 0 h1) fun x4 h2 =>
  bd1 (vP Tryd.prog (.fieldAddr 26 (.const x4) 2) 0) fun x7 =>
  bd1 (vR Tryd.prog (.load 24 (.const x7)) 24 h2) fun x8 =>
  bd1 (vR Tryd.prog (.call ⟨.builtin .len, #[(.const x8)], #[24]⟩) 3 h2) fun x9 =>
  bd1 (vP Tryd.prog (.binOp .gtr 3 (.const x9) (.const (.int .i64 40)) 3) 4) fun x10 =>
  ifV x10
    (bd2 (call 8 #[] h2) fun x11 h3 =>
      some (x11, h3))
    (bd2 (call 8 #[] h2) fun x12 h3 =>
      ifV x12
        (bd1 (vR Tryd.prog (.load 23 (.const x3)) 23 h3) fun x14 =>
          bd1 (vR Tryd.prog (.load 26 (.const x4)) 26 h3) fun x15 =>
          same (vR Tryd.prog (.load 23 (.const x3)) 23 h3) x14 <| same (vR Tryd.prog (.load 26 (.const x4)) 26 h3) x15 <| bd2 (call 9 #[x14, x15, v2] h3) fun x17 h4 =>
          bd1 (vR Tryd.prog (.load 23 (.const x3)) 23 h4) fun x18 =>
          same (vR Tryd.prog (.load 23 (.const x3)) 23 h3) x18 <| bd1 (vR Tryd.prog (.load 26 (.const x4)) 26 h4) fun x19 =>
          same (vR Tryd.prog (.load 26 (.const x4)) 26 h3) x19 <| same (vR Tryd.prog (.load 23 (.const x3)) 23 h4) x18 <| same (vR Tryd.prog (.load 26 (.const x4)) 26 h4) x19 <| bd2 (call 10 #[x18, x19, v2] h4) fun x21 h5 =>
          bd1 (vB Tryd.prog .eql 4 (.tmp 17) (.tmp 21) x17 x21 h5) fun x22 =>
          same (vB Tryd.prog .eql 4 (.tmp 17) (.tmp 21) x17 x21 h5) x22 <| some (x22, h5))
        (some ((.bool false), h3))) := by kernel_rfl


/-! 9: orpiment/attributes.Allowed -/
theorem f9 (call : CallF) (v0 v1 v2 : Value) (h : H) : kCode Tryd.prog call (bodyOf Tryd.prog 9) ⟨#[v0, v1, v2, undef, undef, undef, undef, undef, undef, undef, undef, undef, undef, undef, undef, undef, undef, undef, undef, undef, undef, undef, undef, undef, undef, undef, undef, undef, undef, undef, undef, undef, undef, undef, undef, undef, undef, undef, undef, undef, undef, undef, undef, undef, undef, undef, undef, undef, undef, undef, undef, undef, undef], []⟩ h (kEnd Tryd.prog 9) =
  bd2 (vE Tryd.prog call (.box 23 (.const v0)) 0 h) fun x3 h1 =>
  bd2 (vE Tryd.prog call (.box 26 (.const v1)) 0 h1) fun x4 h2 =>
  bd1 (vP Tryd.prog (.binOp .lss 3 (.const v2) (.const (.int .i64 0)) 3) 4) fun x11 =>
  ifV x11
    (some ((.bool false), h2))
    (bd1 (vP Tryd.prog (.binOp .gtr 3 (.const v2) (.const (.int .i64 7)) 3) 4) fun x14 =>
      ifV x14
        (some ((.bool false), h2))
        (bd1 (vP Tryd.prog (.fieldAddr 23 (.const x3) 0) 0) fun x16 =>
          bd1 (vR Tryd.prog (.load 3 (.const x16)) 3 h2) fun x17 =>
          bd1 (vP Tryd.prog (.binOp .and 3 (.const x17) (.const (.int .i64 4095)) 3) 3) fun x18 =>
          bd1 (vP Tryd.prog (.fieldAddr 23 (.const x3) 0) 0) fun x19 =>
          bd2 (vE Tryd.prog call (.store 3 (.const x19) (.const x18)) 0 h2) fun _ h3 =>
          bd1 (vR Tryd.prog (.load 65 (.const (.pointer (some ⟨0, 0, none⟩)))) 65 h3) fun x20 =>
          kCode Tryd.prog call (codeAt (bodyOf Tryd.prog 9) [1, 1, 1, 1, 0, 1, 0]) ⟨#[v0, v1, v2, x3, x4, undef, (.bool false), (.int .i64 0), undef, undef, v2, x11, (.bool false), v2, x14, (.bool false), x16, x17, x18, x19, x20, (.int .i64 0), undef, undef, undef, undef, undef, undef, undef, undef, undef, undef, undef, undef, undef, undef, undef, undef, undef, undef, undef, undef, undef, undef, undef, undef, undef, undef, undef, undef, undef, undef, undef], []⟩ h3 (kPath Tryd.prog call (bodyOf Tryd.prog 9) [1, 1, 1, 1, 0, 1, 0] (kEnd Tryd.prog 9)))) := by kernel_rfl
theorem f9_l1111010 (call : CallF) (v0 v1 v2 v3 v4 v5 v6 v7 v8 v9 v10 v11 v12 v13 v14 v15 v16 v17 v18 v19 v20 v21 v22 v23 v24 v25 v26 v27 v28 v29 v30 v31 v32 v33 v34 v35 v36 v37 v38 v39 v40 v41 v42 v43 v44 v45 v46 v47 v48 v49 v50 v51 v52 : Value) (h : H) (k : Exit → Act → H → Option (Value × H)) : kCode Tryd.prog call (codeAt (bodyOf Tryd.prog 9) [1, 1, 1, 1, 0, 1, 0, 0]) ⟨#[v0, v1, v2, v3, v4, v5, v6, v7, v8, v9, v10, v11, v12, v13, v14, v15, v16, v17, v18, v19, v20, v21, v22, v23, v24, v25, v26, v27, v28, v29, v30, v31, v32, v33, v34, v35, v36, v37, v38, v39, v40, v41, v42, v43, v44, v45, v46, v47, v48, v49, v50, v51, v52], []⟩ h (again Tryd.prog call (codeAt (bodyOf Tryd.prog 9) [1, 1, 1, 1, 0, 1, 0, 0]) k) =
  bd1 (vP Tryd.prog (.binOp .lss 3 (.const v21) (.const (.int .i64 3)) 3) 0) fun x22 =>
  ifV x22
    (bd1 (vP Tryd.prog (.index 65 (.const v20) (.const v21)) 64) fun x23 =>
      bd2 (vE Tryd.prog call (.alloc 64) 0 h) fun x9 h1 =>
      bd2 (vE Tryd.prog call (.store 64 (.const x9) (.const x23)) 0 h1) fun _ h2 =>
      bd1 (vR Tryd.prog (.load 23 (.const v3)) 23 h2) fun x24 =>
      bd1 (vR Tryd.prog (.load 26 (.const v4)) 26 h2) fun x25 =>
      same (vR Tryd.prog (.load 23 (.const v3)) 23 h2) x24 <| same (vR Tryd.prog (.load 26 (.const v4)) 26 h2) x25 <| bd2 (call 27 #[x24, x25] h2) fun x26 h3 =>
      bd1 (vP Tryd.prog (.fieldAddr 64 (.const x9) 0) 0) fun x27 =>
      bd1 (vR Tryd.prog (.load 3 (.const x27)) 3 h3) fun x28 =>
      same (vR Tryd.prog (.load 3 (.const x27)) 3 h2) x28 <| bd1 (vP Tryd.prog (.binOp .and 3 (.const x26) (.const x28) 3) 3) fun x29 =>
      bd1 (vB Tryd.prog .neq 3 (.tmp 29) (.const (.int .i64 0)) x29 (.int .i64 0) h3) fun x30 =>
      same (vR Tryd.prog (.load 3 (.const x27)) 3 h3) x28 <| same (vB Tryd.prog .neq 3 (.tmp 29) (.const (.int .i64 0)) x29 (.int .i64 0) h3) x30 <| ifV x30
        (bd1 (vP Tryd.prog (.fieldAddr 64 (.const x9) 1) 0) fun x32 =>
          bd1 (vR Tryd.prog (.load 3 (.const x32)) 3 h3) fun x33 =>
          bd1 (vP Tryd.prog (.binOp .or 3 (.const v7) (.const x33) 3) 3) fun x34 =>
          bd1 (vP Tryd.prog (.binOp .add 3 (.const v21) (.const (.int .i64 1)) 3) 3) fun x35 =>
          kCode Tryd.prog call (codeAt (bodyOf Tryd.prog 9) [1, 1, 1, 1, 0, 1, 0]) ⟨#[v0, v1, v2, v3, v4, v5, v6, x34, v8, x9, v10, v11, v12, v13, v14, v15, v16, v17, v18, v19, v20, x35, (.bool true), x23, x24, x25, x26, x27, x28, x29, (.bool true), v7, x32, x33, x34, x35, v36, v37, v38, v39, v40, v41, v42, v43, v44, v45, v46, v47, v48, v49, v50, v51, v52], []⟩ h3 k)
        (bd1 (vP Tryd.prog (.binOp .add 3 (.const v21) (.const (.int .i64 1)) 3) 3) fun x35 =>
          kCode Tryd.prog call (codeAt (bodyOf Tryd.prog 9) [1, 1, 1, 1, 0, 1, 0]) ⟨#[v0, v1, v2, v3, v4, v5, v6, v7, v8, x9, v10, v11, v12, v13, v14, v15, v16, v17, v18, v19, v20, x35, (.bool true), x23, x24, x25, x26, x27, x28, x29, (.bool false), v31, v32, v33, v34, x35, v36, v37, v38, v39, v40, v41, v42, v43, v44, v45, v46, v47, v48, v49, v50, v51, v52], []⟩ h3 k))
    (k (.exit 0) ⟨#[v0, v1, v2, v3, v4, v5, v6, v7, v8, v9, v10, v11, v12, v13, v14, v15, v16, v17, v18, v19, v20, v21, (.bool false), v23, v24, v25, v26, v27, v28, v29, v30, v31, v32, v33, v34, v35, v36, v37, v38, v39, v40, v41, v42, v43, v44, v45, v46, v47, v48, v49, v50, v51, v52], []⟩ h) := by kernel_rfl
theorem f9_l1111010_eq : (codeAt (bodyOf Tryd.prog 9) [1, 1, 1, 1, 0, 1, 0]) = .loop (codeAt (bodyOf Tryd.prog 9) [1, 1, 1, 1, 0, 1, 0, 0]) := by kernel_rfl
theorem f9_l1111010_E0 (call : CallF) (v0 v1 v2 v3 v4 v5 v6 v7 v8 v9 v10 v11 v12 v13 v14 v15 v16 v17 v18 v19 v20 v21 v22 v23 v24 v25 v26 v27 v28 v29 v30 v31 v32 v33 v34 v35 v36 v37 v38 v39 v40 v41 v42 v43 v44 v45 v46 v47 v48 v49 v50 v51 v52 : Value) (h : H) : kPath Tryd.prog call (bodyOf Tryd.prog 9) [1, 1, 1, 1, 0, 1, 0] (kEnd Tryd.prog 9) (.exit 0) ⟨#[v0, v1, v2, v3, v4, v5, v6, v7, v8, v9, v10, v11, v12, v13, v14, v15, v16, v17, v18, v19, v20, v21, v22, v23, v24, v25, v26, v27, v28, v29, v30, v31, v32, v33, v34, v35, v36, v37, v38, v39, v40, v41, v42, v43, v44, v45, v46, v47, v48, v49, v50, v51, v52], []⟩ h =
  bd1 (vP Tryd.prog (.fieldAddr 26 (.const v4) 0) 0) fun x36 =>
  bd1 (vR Tryd.prog (.load 3 (.const x36)) 3 h) fun x37 =>
  bd1 (vB Tryd.prog .eql 3 (.tmp 37) (.const (.int .i64 0)) x37 (.int .i64 0) h) fun x38 =>
  ifV x38
    (bd1 (vP Tryd.prog (.fieldAddr 23 (.const v3) 5) 0) fun x39 =>
      bd1 (vR Tryd.prog (.load 4 (.const x39)) 4 h) fun x40 =>
      ifV x40
        (bd1 (vP Tryd.prog (.binOp .or 3 (.const (.int .i64 3)) (.const (.int .i64 4)) 3) 3) fun x48 =>
          bd1 (vP Tryd.prog (.binOp .andNot 3 (.const v2) (.const x48) 3) 3) fun x51 =>
          bd1 (vB Tryd.prog .eql 3 (.tmp 51) (.const (.int .i64 0)) x51 (.int .i64 0) h) fun x52 =>
          some (x52, h))
        (bd1 (vP Tryd.prog (.fieldAddr 23 (.const v3) 0) 0) fun x42 =>
          bd1 (vR Tryd.prog (.load 3 (.const x42)) 3 h) fun x43 =>
          bd1 (vP Tryd.prog (.binOp .and 3 (.const x43) (.const (.int .i64 73)) 3) 3) fun x44 =>
          bd1 (vB Tryd.prog .neq 3 (.tmp 44) (.const (.int .i64 0)) x44 (.int .i64 0) h) fun x45 =>
          ifV x45
            (bd1 (vP Tryd.prog (.binOp .or 3 (.const (.int .i64 3)) (.const (.int .i64 4)) 3) 3) fun x48 =>
              bd1 (vP Tryd.prog (.binOp .andNot 3 (.const v2) (.const x48) 3) 3) fun x51 =>
              bd1 (vB Tryd.prog .eql 3 (.tmp 51) (.const (.int .i64 0)) x51 (.int .i64 0) h) fun x52 =>
              some (x52, h))
            (bd1 (vP Tryd.prog (.binOp .andNot 3 (.const v2) (.const (.int .i64 3)) 3) 3) fun x51 =>
              bd1 (vB Tryd.prog .eql 3 (.tmp 51) (.const (.int .i64 0)) x51 (.int .i64 0) h) fun x52 =>
              some (x52, h))))
    (bd1 (vP Tryd.prog (.binOp .andNot 3 (.const v2) (.const v7) 3) 3) fun x51 =>
      bd1 (vB Tryd.prog .eql 3 (.tmp 51) (.const (.int .i64 0)) x51 (.int .i64 0) h) fun x52 =>
      some (x52, h)) := by kernel_rfl


/-! 10: orpiment/orpimentref20.Allowed -/
theorem f10 (call : CallF) (v0 v1 v2 : Value) (h : H) : kCode Tryd.prog call (bodyOf Tryd.prog 10) ⟨#[v0, v1, v2, undef, undef, undef, undef, undef, undef, undef, undef, undef, undef, undef, undef, undef, undef, undef, undef, undef, undef, undef, undef, undef, undef, undef, undef, undef, undef, undef, undef, undef, undef, undef, undef, undef, undef, undef, undef, undef, undef, undef, undef, undef, undef, undef, undef, undef, undef, undef, undef, undef, undef, undef, undef, undef, undef, undef, undef, undef, undef, undef, undef, undef, undef, undef, undef, undef, undef, undef, undef, undef, undef, undef, undef, undef, undef, undef], []⟩ h (kEnd Tryd.prog 10) =
  bd2 (vE Tryd.prog call (.box 30 (.const v0)) 0 h) fun x3 h1 =>
  bd2 (vE Tryd.prog call (.box 26 (.const v1)) 0 h1) fun x4 h2 =>
  bd1 (vP Tryd.prog (.binOp .lss 3 (.const v2) (.const (.int .i64 0)) 3) 4) fun x9 =>
  ifV x9
    (some ((.bool false), h2))
    (bd1 (vP Tryd.prog (.binOp .gtr 3 (.const v2) (.const (.int .i64 7)) 3) 4) fun x12 =>
      ifV x12
        (some ((.bool false), h2))
        (bd1 (vP Tryd.prog (.fieldAddr 26 (.const x4) 0) 0) fun x14 =>
          bd1 (vR Tryd.prog (.load 3 (.const x14)) 3 h2) fun x15 =>
          bd1 (vB Tryd.prog .eql 3 (.tmp 15) (.const (.int .i64 0)) x15 (.int .i64 0) h2) fun x16 =>
          ifV x16
            (bd1 (vP Tryd.prog (.binOp .and 3 (.const v2) (.const (.int .i64 4)) 3) 3) fun x18 =>
              bd1 (vB Tryd.prog .eql 3 (.tmp 18) (.const (.int .i64 0)) x18 (.int .i64 0) h2) fun x19 =>
              ifV x19
                (some ((.bool true), h2))
                (bd1 (vP Tryd.prog (.fieldAddr 30 (.const x3) 5) 0) fun x21 =>
                  bd1 (vR Tryd.prog (.load 4 (.const x21)) 4 h2) fun x22 =>
                  ifV x22
                    (some ((.bool true), h2))
                    (bd1 (vP Tryd.prog (.fieldAddr 30 (.const x3) 0) 0) fun x25 =>
                      bd1 (vR Tryd.prog (.load 3 (.const x25)) 3 h2) fun x26 =>
                      bd1 (vP Tryd.prog (.binOp .and 3 (.const x26) (.const (.int .i64 73)) 3) 3) fun x27 =>
                      bd1 (vB Tryd.prog .neq 3 (.tmp 27) (.const (.int .i64 0)) x27 (.int .i64 0) h2) fun x28 =>
                      some (x28, h2))))
            (bd1 (vP Tryd.prog (.fieldAddr 30 (.const x3) 0) 0) fun x30 =>
              bd1 (vR Tryd.prog (.load 3 (.const x30)) 3 h2) fun x31 =>
              bd1 (vP Tryd.prog (.binOp .and 3 (.const x31) (.const (.int .i64 7)) 3) 3) fun x32 =>
              bd1 (vP Tryd.prog (.fieldAddr 26 (.const x4) 0) 0) fun x33 =>
              bd1 (vR Tryd.prog (.load 3 (.const x33)) 3 h2) fun x34 =>
              bd1 (vP Tryd.prog (.fieldAddr 30 (.const x3) 1) 0) fun x35 =>
              bd1 (vR Tryd.prog (.load 3 (.const x35)) 3 h2) fun x36 =>
              bd1 (vB Tryd.prog .eql 3 (.tmp 34) (.tmp 36) x34 x36 h2) fun x37 =>
              ifV x37
                (bd1 (vP Tryd.prog (.fieldAddr 30 (.const x3) 0) 0) fun x38 =>
                  bd1 (vR Tryd.prog (.load 3 (.const x38)) 3 h2) fun x39 =>
                  bd1 (vP Tryd.prog (.binOp .shr 3 (.const x39) (.const (.int .u64 6)) 67) 3) fun x40 =>
                  bd1 (vP Tryd.prog (.binOp .and 3 (.const x40) (.const (.int .i64 7)) 3) 3) fun x41 =>
                  bd1 (vP Tryd.prog (.binOp .and 3 (.const v2) (.const (.int .i64 1)) 3) 3) fun x51 =>
                  bd1 (vB Tryd.prog .eql 3 (.tmp 51) (.const (.int .i64 0)) x51 (.int .i64 0) h2) fun x52 =>
                  ifV x52
                    (bd1 (vP Tryd.prog (.binOp .and 3 (.const v2) (.const (.int .i64 2)) 3) 3) fun x60 =>
                      bd1 (vB Tryd.prog .eql 3 (.tmp 60) (.const (.int .i64 0)) x60 (.int .i64 0) h2) fun x61 =>
                      ifV x61
                        (bd1 (vP Tryd.prog (.binOp .and 3 (.const v2) (.const (.int .i64 4)) 3) 3) fun x70 =>
                          bd1 (vB Tryd.prog .eql 3 (.tmp 70) (.const (.int .i64 0)) x70 (.int .i64 0) h2) fun x71 =>
                          ifV x71
                            (some ((.bool true), h2))
                            (bd1 (vP Tryd.prog (.binOp .and 3 (.const x41) (.const (.int .i64 1)) 3) 3) fun x74 =>
                              bd1 (vB Tryd.prog .neq 3 (.tmp 74) (.const (.int .i64 0)) x74 (.int .i64 0) h2) fun x75 =>
                              some (x75, h2)))
                        (bd1 (vP Tryd.prog (.binOp .and 3 (.const x41) (.const (.int .i64 2)) 3) 3) fun x64 =>
                          bd1 (vB Tryd.prog .neq 3 (.tmp 64) (.const (.int .i64 0)) x64 (.int .i64 0) h2) fun x65 =>
                          ifV x65
                            (bd1 (vP Tryd.prog (.binOp .and 3 (.const v2) (.const (.int .i64 4)) 3) 3) fun x70 =>
                              bd1 (vB Tryd.prog .eql 3 (.tmp 70) (.const (.int .i64 0)) x70 (.int .i64 0) h2) fun x71 =>
                              ifV x71
                                (some ((.bool true), h2))
                                (bd1 (vP Tryd.prog (.binOp .and 3 (.const x41) (.const (.int .i64 1)) 3) 3) fun x74 =>
                                  bd1 (vB Tryd.prog .neq 3 (.tmp 74) (.const (.int .i64 0)) x74 (.int .i64 0) h2) fun x75 =>
                                  some (x75, h2)))
                            (some ((.bool false), h2))))
                    (bd1 (vP Tryd.prog (.binOp .and 3 (.const x41) (.const (.int .i64 4)) 3) 3) fun x55 =>
                      bd1 (vB Tryd.prog .neq 3 (.tmp 55) (.const (.int .i64 0)) x55 (.int .i64 0) h2) fun x56 =>
                      ifV x56
                        (bd1 (vP Tryd.prog (.binOp .and 3 (.const v2) (.const (.int .i64 2)) 3) 3) fun x60 =>
                          bd1 (vB Tryd.prog .eql 3 (.tmp 60) (.const (.int .i64 0)) x60 (.int .i64 0) h2) fun x61 =>
                          ifV x61
                            (bd1 (vP Tryd.prog (.binOp .and 3 (.const v2) (.const (.int .i64 4)) 3) 3) fun x70 =>
                              bd1 (vB Tryd.prog .eql 3 (.tmp 70) (.const (.int .i64 0)) x70 (.int .i64 0) h2) fun x71 =>
                              ifV x71
                                (some ((.bool true), h2))
                                (bd1 (vP Tryd.prog (.binOp .and 3 (.const x41) (.const (.int .i64 1)) 3) 3) fun x74 =>
                                  bd1 (vB Tryd.prog .neq 3 (.tmp 74) (.const (.int .i64 0)) x74 (.int .i64 0) h2) fun x75 =>
                                  some (x75, h2)))
                            (bd1 (vP Tryd.prog (.binOp .and 3 (.const x41) (.const (.int .i64 2)) 3) 3) fun x64 =>
                              bd1 (vB Tryd.prog .neq 3 (.tmp 64) (.const (.int .i64 0)) x64 (.int .i64 0) h2) fun x65 =>
                              ifV x65
                                (bd1 (vP Tryd.prog (.binOp .and 3 (.const v2) (.const (.int .i64 4)) 3) 3) fun x70 =>
                                  bd1 (vB Tryd.prog .eql 3 (.tmp 70) (.const (.int .i64 0)) x70 (.int .i64 0) h2) fun x71 =>
                                  ifV x71
                                    (some ((.bool true), h2))
                                    (bd1 (vP Tryd.prog (.binOp .and 3 (.const x41) (.const (.int .i64 1)) 3) 3) fun x74 =>
                                      bd1 (vB Tryd.prog .neq 3 (.tmp 74) (.const (.int .i64 0)) x74 (.int .i64 0) h2) fun x75 =>
                                      some (x75, h2)))
                                (some ((.bool false), h2))))
                        (some ((.bool false), h2))))
                (bd1 (vR Tryd.prog (.load 26 (.const x4)) 26 h2) fun x42 =>
                  bd1 (vP Tryd.prog (.fieldAddr 30 (.const x3) 2) 0) fun x43 =>
                  bd1 (vR Tryd.prog (.load 3 (.const x43)) 3 h2) fun x44 =>
                  bd2 (call 28 #[x42, x44] h2) fun x45 h3 =>
                  ifV x45
                    (bd1 (vP Tryd.prog (.fieldAddr 30 (.const x3) 0) 0) fun x46 =>
                      bd1 (vR Tryd.prog (.load 3 (.const x46)) 3 h3) fun x47 =>
                      bd1 (vP Tryd.prog (.binOp .shr 3 (.const x47) (.const (.int .u64 3)) 67) 3) fun x48 =>
                      bd1 (vP Tryd.prog (.binOp .and 3 (.const x48) (.const (.int .i64 7)) 3) 3) fun x49 =>
                      bd1 (vP Tryd.prog (.binOp .and 3 (.const v2) (.const (.int .i64 1)) 3) 3) fun x51 =>
                      bd1 (vB Tryd.prog .eql 3 (.tmp 51) (.const (.int .i64 0)) x51 (.int .i64 0) h3) fun x52 =>
                      ifV x52
                        (bd1 (vP Tryd.prog (.binOp .and 3 (.const v2) (.const (.int .i64 2)) 3) 3) fun x60 =>
                          bd1 (vB Tryd.prog .eql 3 (.tmp 60) (.const (.int .i64 0)) x60 (.int .i64 0) h3) fun x61 =>
                          ifV x61
                            (bd1 (vP Tryd.prog (.binOp .and 3 (.const v2) (.const (.int .i64 4)) 3) 3) fun x70 =>
                              bd1 (vB Tryd.prog .eql 3 (.tmp 70) (.const (.int .i64 0)) x70 (.int .i64 0) h3) fun x71 =>
                              ifV x71
                                (some ((.bool true), h3))
                                (bd1 (vP Tryd.prog (.binOp .and 3 (.const x49) (.const (.int .i64 1)) 3) 3) fun x74 =>
                                  bd1 (vB Tryd.prog .neq 3 (.tmp 74) (.const (.int .i64 0)) x74 (.int .i64 0) h3) fun x75 =>
                                  some (x75, h3)))
                            (bd1 (vP Tryd.prog (.binOp .and 3 (.const x49) (.const (.int .i64 2)) 3) 3) fun x64 =>
                              bd1 (vB Tryd.prog .neq 3 (.tmp 64) (.const (.int .i64 0)) x64 (.int .i64 0) h3) fun x65 =>
                              ifV x65
                                (bd1 (vP Tryd.prog (.binOp .and 3 (.const v2) (.const (.int .i64 4)) 3) 3) fun x70 =>
                                  bd1 (vB Tryd.prog .eql 3 (.tmp 70) (.const (.int .i64 0)) x70 (.int .i64 0) h3) fun x71 =>
                                  ifV x71
                                    (some ((.bool true), h3))
                                    (bd1 (vP Tryd.prog (.binOp .and 3 (.const x49) (.const (.int .i64 1)) 3) 3) fun x74 =>
                                      bd1 (vB Tryd.prog .neq 3 (.tmp 74) (.const (.int .i64 0)) x74 (.int .i64 0) h3) fun x75 =>
                                      some (x75, h3)))
                                (some ((.bool false), h3))))
                        (bd1 (vP Tryd.prog (.binOp .and 3 (.const x49) (.const (.int .i64 4)) 3) 3) fun x55 =>
                          bd1 (vB Tryd.prog .neq 3 (.tmp 55) (.const (.int .i64 0)) x55 (.int .i64 0) h3) fun x56 =>
                          ifV x56
                            (bd1 (vP Tryd.prog (.binOp .and 3 (.const v2) (.const (.int .i64 2)) 3) 3) fun x60 =>
                              bd1 (vB Tryd.prog .eql 3 (.tmp 60) (.const (.int .i64 0)) x60 (.int .i64 0) h3) fun x61 =>
                              ifV x61
                                (bd1 (vP Tryd.prog (.binOp .and 3 (.const v2) (.const (.int .i64 4)) 3) 3) fun x70 =>
                                  bd1 (vB Tryd.prog .eql 3 (.tmp 70) (.const (.int .i64 0)) x70 (.int .i64 0) h3) fun x71 =>
                                  ifV x71
                                    (some ((.bool true), h3))
                                    (bd1 (vP Tryd.prog (.binOp .and 3 (.const x49) (.const (.int .i64 1)) 3) 3) fun x74 =>
                                      bd1 (vB Tryd.prog .neq 3 (.tmp 74) (.const (.int .i64 0)) x74 (.int .i64 0) h3) fun x75 =>
                                      some (x75, h3)))
                                (bd1 (vP Tryd.prog (.binOp .and 3 (.const x49) (.const (.int .i64 2)) 3) 3) fun x64 =>
                                  bd1 (vB Tryd.prog .neq 3 (.tmp 64) (.const (.int .i64 0)) x64 (.int .i64 0) h3) fun x65 =>
                                  ifV x65
                                    (bd1 (vP Tryd.prog (.binOp .and 3 (.const v2) (.const (.int .i64 4)) 3) 3) fun x70 =>
                                      bd1 (vB Tryd.prog .eql 3 (.tmp 70) (.const (.int .i64 0)) x70 (.int .i64 0) h3) fun x71 =>
                                      ifV x71
                                        (some ((.bool true), h3))
                                        (bd1 (vP Tryd.prog (.binOp .and 3 (.const x49) (.const (.int .i64 1)) 3) 3) fun x74 =>
                                          bd1 (vB Tryd.prog .neq 3 (.tmp 74) (.const (.int .i64 0)) x74 (.int .i64 0) h3) fun x75 =>
                                          some (x75, h3)))
                                    (some ((.bool false), h3))))
                            (some ((.bool false), h3))))
                    (bd1 (vP Tryd.prog (.binOp .and 3 (.const v2) (.const (.int .i64 1)) 3) 3) fun x51 =>
                      bd1 (vB Tryd.prog .eql 3 (.tmp 51) (.const (.int .i64 0)) x51 (.int .i64 0) h3) fun x52 =>
                      ifV x52
                        (bd1 (vP Tryd.prog (.binOp .and 3 (.const v2) (.const (.int .i64 2)) 3) 3) fun x60 =>
                          bd1 (vB Tryd.prog .eql 3 (.tmp 60) (.const (.int .i64 0)) x60 (.int .i64 0) h3) fun x61 =>
                          ifV x61
                            (bd1 (vP Tryd.prog (.binOp .and 3 (.const v2) (.const (.int .i64 4)) 3) 3) fun x70 =>
                              bd1 (vB Tryd.prog .eql 3 (.tmp 70) (.const (.int .i64 0)) x70 (.int .i64 0) h3) fun x71 =>
                              ifV x71
                                (some ((.bool true), h3))
                                (bd1 (vP Tryd.prog (.binOp .and 3 (.const x32) (.const (.int .i64 1)) 3) 3) fun x74 =>
                                  bd1 (vB Tryd.prog .neq 3 (.tmp 74) (.const (.int .i64 0)) x74 (.int .i64 0) h3) fun x75 =>
                                  some (x75, h3)))
                            (bd1 (vP Tryd.prog (.binOp .and 3 (.const x32) (.const (.int .i64 2)) 3) 3) fun x64 =>
                              bd1 (vB Tryd.prog .neq 3 (.tmp 64) (.const (.int .i64 0)) x64 (.int .i64 0) h3) fun x65 =>
                              ifV x65
                                (bd1 (vP Tryd.prog (.binOp .and 3 (.const v2) (.const (.int .i64 4)) 3) 3) fun x70 =>
                                  bd1 (vB Tryd.prog .eql 3 (.tmp 70) (.const (.int .i64 0)) x70 (.int .i64 0) h3) fun x71 =>
                                  ifV x71
                                    (some ((.bool true), h3))
                                    (bd1 (vP Tryd.prog (.binOp .and 3 (.const x32) (.const (.int .i64 1)) 3) 3) fun x74 =>
                                      bd1 (vB Tryd.prog .neq 3 (.tmp 74) (.const (.int .i64 0)) x74 (.int .i64 0) h3) fun x75 =>
                                      some (x75, h3)))
                                (some ((.bool false), h3))))
                        (bd1 (vP Tryd.prog (.binOp .and 3 (.const x32) (.const (.int .i64 4)) 3) 3) fun x55 =>
                          bd1 (vB Tryd.prog .neq 3 (.tmp 55) (.const (.int .i64 0)) x55 (.int .i64 0) h3) fun x56 =>
                          ifV x56
                            (bd1 (vP Tryd.prog (.binOp .and 3 (.const v2) (.const (.int .i64 2)) 3) 3) fun x60 =>
                              bd1 (vB Tryd.prog .eql 3 (.tmp 60) (.const (.int .i64 0)) x60 (.int .i64 0) h3) fun x61 =>
                              ifV x61
                                (bd1 (vP Tryd.prog (.binOp .and 3 (.const v2) (.const (.int .i64 4)) 3) 3) fun x70 =>
                                  bd1 (vB Tryd.prog .eql 3 (.tmp 70) (.const (.int .i64 0)) x70 (.int .i64 0) h3) fun x71 =>
                                  ifV x71
                                    (some ((.bool true), h3))
                                    (bd1 (vP Tryd.prog (.binOp .and 3 (.const x32) (.const (.int .i64 1)) 3) 3) fun x74 =>
                                      bd1 (vB Tryd.prog .neq 3 (.tmp 74) (.const (.int .i64 0)) x74 (.int .i64 0) h3) fun x75 =>
                                      some (x75, h3)))
                                (bd1 (vP Tryd.prog (.binOp .and 3 (.const x32) (.const (.int .i64 2)) 3) 3) fun x64 =>
                                  bd1 (vB Tryd.prog .neq 3 (.tmp 64) (.const (.int .i64 0)) x64 (.int .i64 0) h3) fun x65 =>
                                  ifV x65
                                    (bd1 (vP Tryd.prog (.binOp .and 3 (.const v2) (.const (.int .i64 4)) 3) 3) fun x70 =>
                                      bd1 (vB Tryd.prog .eql 3 (.tmp 70) (.const (.int .i64 0)) x70 (.int .i64 0) h3) fun x71 =>
                                      ifV x71
                                        (some ((.bool true), h3))
                                        (bd1 (vP Tryd.prog (.binOp .and 3 (.const x32) (.const (.int .i64 1)) 3) 3) fun x74 =>
                                          bd1 (vB Tryd.prog .neq 3 (.tmp 74) (.const (.int .i64 0)) x74 (.int .i64 0) h3) fun x75 =>
                                          some (x75, h3)))
                                    (some ((.bool false), h3))))
                            (some ((.bool false), h3)))))))) := by kernel_rfl


/-! 27: orpiment/attributes.class -/
theorem f27 (call : CallF) (v0 v1 : Value) (h : H) : kCode Tryd.prog call (bodyOf Tryd.prog 27) ⟨#[v0, v1, undef, undef, undef, undef, undef, undef, undef, undef, undef, undef, undef, undef, undef, undef, undef, undef, undef, undef, undef, undef, undef, undef, undef, undef, undef], []⟩ h (kEnd Tryd.prog 27) =
  bd2 (vE Tryd.prog call (.box 23 (.const v0)) 0 h) fun x2 h1 =>
  bd2 (vE Tryd.prog call (.box 26 (.const v1)) 0 h1) fun x3 h2 =>
  bd1 (vP Tryd.prog (.fieldAddr 26 (.const x3) 0) 0) fun x6 =>
  bd1 (vR Tryd.prog (.load 3 (.const x6)) 3 h2) fun x7 =>
  bd1 (vP Tryd.prog (.fieldAddr 23 (.const x2) 1) 0) fun x8 =>
  bd1 (vR Tryd.prog (.load 3 (.const x8)) 3 h2) fun x9 =>
  bd1 (vB Tryd.prog .eql 3 (.tmp 7) (.tmp 9) x7 x9 h2) fun x10 =>
  ifV x10
    (bd1 (vP Tryd.prog (.fieldAddr 23 (.const x2) 0) 0) fun x11 =>
      bd1 (vR Tryd.prog (.load 3 (.const x11)) 3 h2) fun x12 =>
      bd1 (vP Tryd.prog (.binOp .quo 3 (.const x12) (.const (.int .i64 64)) 3) 3) fun x13 =>
      bd1 (vP Tryd.prog (.binOp .rem 3 (.const x13) (.const (.int .i64 8)) 3) 3) fun x14 =>
      some (x14, h2))
    (bd1 (vR Tryd.prog (.load 26 (.const x3)) 26 h2) fun x16 =>
      bd1 (vP Tryd.prog (.fieldAddr 23 (.const x2) 2) 0) fun x17 =>
      bd1 (vR Tryd.prog (.load 3 (.const x17)) 3 h2) fun x18 =>
      bd2 (call 65 #[x16, x18] h2) fun x19 h3 =>
      ifV x19
        (bd1 (vP Tryd.prog (.fieldAddr 23 (.const x2) 0) 0) fun x20 =>
          bd1 (vR Tryd.prog (.load 3 (.const x20)) 3 h3) fun x21 =>
          bd1 (vP Tryd.prog (.binOp .quo 3 (.const x21) (.const (.int .i64 8)) 3) 3) fun x22 =>
          bd1 (vP Tryd.prog (.binOp .rem 3 (.const x22) (.const (.int .i64 8)) 3) 3) fun x23 =>
          some (x23, h3))
        (bd1 (vP Tryd.prog (.fieldAddr 23 (.const x2) 0) 0) fun x24 =>
          bd1 (vR Tryd.prog (.load 3 (.const x24)) 3 h3) fun x25 =>
          bd1 (vP Tryd.prog (.binOp .rem 3 (.const x25) (.const (.int .i64 8)) 3) 3) fun x26 =>
          some (x26, h3))) := by kernel_rfl


/-! 28: orpiment/orpimentref20.member -/
theorem f28 (call : CallF) (v0 v1 : Value) (h : H) : kCode Tryd.prog call (bodyOf Tryd.prog 28) ⟨#[v0, v1, undef, undef, undef, undef, undef, undef, undef, undef, undef, undef, undef, undef, undef, undef, undef, undef, undef, undef, undef, undef, undef, undef], []⟩ h (kEnd Tryd.prog 28) =
  bd2 (vE Tryd.prog call (.box 26 (.const v0)) 0 h) fun x2 h1 =>
  bd1 (vP Tryd.prog (.fieldAddr 26 (.const x2) 1) 0) fun x6 =>
  bd1 (vR Tryd.prog (.load 3 (.const x6)) 3 h1) fun x7 =>
  bd1 (vB Tryd.prog .eql 3 (.tmp 7) (.tmp 8) x7 v1 h1) fun x9 =>
  ifV x9
    (some ((.bool true), h1))
    (kCode Tryd.prog call (codeAt (bodyOf Tryd.prog 28) [1, 1, 0, 1, 0]) ⟨#[v0, v1, x2, undef, (.bool false), (.int .i64 0), x6, x7, v1, (.bool false), undef, undef, undef, undef, undef, undef, undef, undef, undef, undef, undef, undef, undef, undef], []⟩ h1 (kPath Tryd.prog call (bodyOf Tryd.prog 28) [1, 1, 0, 1, 0] (kEnd Tryd.prog 28))) := by kernel_rfl
theorem f28_l11010 (call : CallF) (v0 v1 v2 v3 v4 v5 v6 v7 v8 v9 v10 v11 v12 v13 v14 v15 v16 v17 v18 v19 v20 v21 v22 v23 : Value) (h : H) (k : Exit → Act → H → Option (Value × H)) : kCode Tryd.prog call (codeAt (bodyOf Tryd.prog 28) [1, 1, 0, 1, 0, 0]) ⟨#[v0, v1, v2, v3, v4, v5, v6, v7, v8, v9, v10, v11, v12, v13, v14, v15, v16, v17, v18, v19, v20, v21, v22, v23], []⟩ h (again Tryd.prog call (codeAt (bodyOf Tryd.prog 28) [1, 1, 0, 1, 0, 0]) k) =
  bd1 (vP Tryd.prog (.fieldAddr 26 (.const v2) 2) 0) fun x11 =>
  bd1 (vR Tryd.prog (.load 24 (.const x11)) 24 h) fun x12 =>
  bd1 (vR Tryd.prog (.call ⟨.builtin .len, #[(.const x12)], #[24]⟩) 3 h) fun x13 =>
  bd1 (vP Tryd.prog (.binOp .lss 3 (.const v5) (.const x13) 3) 4) fun x14 =>
  ifV x14
    (bd1 (vP Tryd.prog (.fieldAddr 26 (.const v2) 2) 0) fun x17 =>
      bd1 (vR Tryd.prog (.load 24 (.const x17)) 24 h) fun x18 =>
      bd1 (vP Tryd.prog (.indexAddr 24 (.const x18) (.const v5)) 0) fun x20 =>
      bd1 (vR Tryd.prog (.load 3 (.const x20)) 3 h) fun x21 =>
      bd1 (vB Tryd.prog .eql 3 (.tmp 21) (.tmp 22) x21 v1 h) fun x23 =>
      ifV x23
        (k .ret ⟨#[v0, v1, v2, v3, (.bool true), v5, v6, v7, v8, v9, v5, x11, x12, x13, (.bool true), v15, v16, x17, x18, v5, x20, x21, v1, (.bool true)], []⟩ h)
        (bd1 (vP Tryd.prog (.binOp .add 3 (.const v5) (.const (.int .i64 1)) 3) 3) fun x16 =>
          kCode Tryd.prog call (codeAt (bodyOf Tryd.prog 28) [1, 1, 0, 1, 0]) ⟨#[v0, v1, v2, v3, v4, x16, v6, v7, v8, v9, v5, x11, x12, x13, (.bool true), v5, x16, x17, x18, v5, x20, x21, v1, (.bool false)], []⟩ h k))
    (k (.exit 0) ⟨#[v0, v1, v2, v3, v4, v5, v6, v7, v8, v9, v5, x11, x12, x13, (.bool false), v15, v16, v17, v18, v19, v20, v21, v22, v23], []⟩ h) := by kernel_rfl
theorem f28_l11010_eq : (codeAt (bodyOf Tryd.prog 28) [1, 1, 0, 1, 0]) = .loop (codeAt (bodyOf Tryd.prog 28) [1, 1, 0, 1, 0, 0]) := by kernel_rfl
theorem f28_l11010_E0 (call : CallF) (v0 v1 v2 v3 v4 v5 v6 v7 v8 v9 v10 v11 v12 v13 v14 v15 v16 v17 v18 v19 v20 v21 v22 v23 : Value) (h : H) : kPath Tryd.prog call (bodyOf Tryd.prog 28) [1, 1, 0, 1, 0] (kEnd Tryd.prog 28) (.exit 0) ⟨#[v0, v1, v2, v3, v4, v5, v6, v7, v8, v9, v10, v11, v12, v13, v14, v15, v16, v17, v18, v19, v20, v21, v22, v23], []⟩ h =
  some ((.bool false), h) := by kernel_rfl
theorem f28_l11010_R (call : CallF) (v0 v1 v2 v3 v4 v5 v6 v7 v8 v9 v10 v11 v12 v13 v14 v15 v16 v17 v18 v19 v20 v21 v22 v23 : Value) (h : H) : kPath Tryd.prog call (bodyOf Tryd.prog 28) [1, 1, 0, 1, 0] (kEnd Tryd.prog 28) .ret ⟨#[v0, v1, v2, v3, v4, v5, v6, v7, v8, v9, v10, v11, v12, v13, v14, v15, v16, v17, v18, v19, v20, v21, v22, v23], []⟩ h =
  some (v4, h) := by kernel_rfl


/-! 65: orpiment/attributes.member -/
theorem f65 (call : CallF) (v0 v1 : Value) (h : H) : kCode Tryd.prog call (bodyOf Tryd.prog 65) ⟨#[v0, v1, undef, undef, undef, undef, undef, undef, undef, undef, undef, undef, undef, undef, undef], []⟩ h (kEnd Tryd.prog 65) =
  bd2 (vE Tryd.prog call (.box 26 (.const v0)) 0 h) fun x2 h1 =>
  bd1 (vP Tryd.prog (.fieldAddr 26 (.const x2) 1) 0) fun x5 =>
  bd1 (vR Tryd.prog (.load 3 (.const x5)) 3 h1) fun x6 =>
  bd1 (vB Tryd.prog .eql 3 (.tmp 6) (.tmp 7) x6 v1 h1) fun x8 =>
  ifV x8
    (some ((.bool true), h1))
    (bd1 (vP Tryd.prog (.fieldAddr 26 (.const x2) 2) 0) fun x10 =>
      bd1 (vR Tryd.prog (.load 24 (.const x10)) 24 h1) fun x11 =>
      bd2 (call 71 #[x11, v1] h1) fun x13 h2 =>
      some (x13, h2)) := by kernel_rfl


/-! 71: slices.Contains[[]int,int] -/
theorem f71 (call : CallF) (v0 v1 : Value) (h : H) : kCode Tryd.prog call (bodyOf Tryd.prog 71) ⟨#[v0, v1, undef, undef, undef, undef, undef, undef, undef], []⟩ h (kEnd Tryd.prog 71) =
  bd2 (call 74 #[v0, v1] h) fun x7 h1 =>
  bd1 (vP Tryd.prog (.binOp .geq 3 (.const x7) (.const (.int .i64 0)) 3) 4) fun x8 =>
  some (x8, h1) := by kernel_rfl


/-! 74: slices.Index[[]int,int] -/
theorem f74 (call : CallF) (v0 v1 : Value) (h : H) : kCode Tryd.prog call (bodyOf Tryd.prog 74) ⟨#[v0, v1, undef, undef, undef, undef, undef, undef, undef, undef, undef, undef, undef, undef, undef, undef, undef, undef, undef], []⟩ h (kEnd Tryd.prog 74) =
  bd1 (vR Tryd.prog (.call ⟨.builtin .len, #[(.const v0)], #[24]⟩) 3 h) fun x7 =>
  kCode Tryd.prog call (codeAt (bodyOf Tryd.prog 74) [1, 0, 1, 0]) ⟨#[v0, v1, undef, undef, (.int .i64 0), undef, v0, x7, (.int .i64 0), undef, undef, undef, undef, undef, undef, undef, undef, undef, undef], []⟩ h (kPath Tryd.prog call (bodyOf Tryd.prog 74) [1, 0, 1, 0] (kEnd Tryd.prog 74)) := by kernel_rfl
theorem f74_l1010 (call : CallF) (v0 v1 v2 v3 v4 v5 v6 v7 v8 v9 v10 v11 v12 v13 v14 v15 v16 v17 v18 : Value) (h : H) (k : Exit → Act → H → Option (Value × H)) : kCode Tryd.prog call (codeAt (bodyOf Tryd.prog 74) [1, 0, 1, 0, 0]) ⟨#[v0, v1, v2, v3, v4, v5, v6, v7, v8, v9, v10, v11, v12, v13, v14, v15, v16, v17, v18], []⟩ h (again Tryd.prog call (codeAt (bodyOf Tryd.prog 74) [1, 0, 1, 0, 0]) k) =
  bd1 (vP Tryd.prog (.binOp .lss 3 (.const v8) (.const v7) 3) 0) fun x9 =>
  ifV x9
    (bd1 (vP Tryd.prog (.indexAddr 24 (.const v0) (.const v8)) 0) fun x14 =>
      bd1 (vR Tryd.prog (.load 3 (.const x14)) 3 h) fun x15 =>
      bd1 (vB Tryd.prog .eql 3 (.tmp 11) (.tmp 15) v1 x15 h) fun x16 =>
      ifV x16
        (k .ret ⟨#[v0, v1, v2, v3, v8, v8, v6, v7, v8, (.bool true), v8, v1, v0, v8, x14, x15, (.bool true), v8, v18], []⟩ h)
        (bd1 (vP Tryd.prog (.binOp .add 3 (.const v8) (.const (.int .i64 1)) 3) 3) fun x18 =>
          kCode Tryd.prog call (codeAt (bodyOf Tryd.prog 74) [1, 0, 1, 0]) ⟨#[v0, v1, v2, v3, v4, v8, v6, v7, x18, (.bool true), v8, v1, v0, v8, x14, x15, (.bool false), v17, x18], []⟩ h k))
    (k (.exit 0) ⟨#[v0, v1, v2, v3, v4, v5, v6, v7, v8, (.bool false), v10, v11, v12, v13, v14, v15, v16, v17, v18], []⟩ h) := by kernel_rfl
theorem f74_l1010_eq : (codeAt (bodyOf Tryd.prog 74) [1, 0, 1, 0]) = .loop (codeAt (bodyOf Tryd.prog 74) [1, 0, 1, 0, 0]) := by kernel_rfl
theorem f74_l1010_E0 (call : CallF) (v0 v1 v2 v3 v4 v5 v6 v7 v8 v9 v10 v11 v12 v13 v14 v15 v16 v17 v18 : Value) (h : H) : kPath Tryd.prog call (bodyOf Tryd.prog 74) [1, 0, 1, 0] (kEnd Tryd.prog 74) (.exit 0) ⟨#[v0, v1, v2, v3, v4, v5, v6, v7, v8, v9, v10, v11, v12, v13, v14, v15, v16, v17, v18], []⟩ h =
  some ((.int .i64 (-1)), h) := by kernel_rfl
theorem f74_l1010_R (call : CallF) (v0 v1 v2 v3 v4 v5 v6 v7 v8 v9 v10 v11 v12 v13 v14 v15 v16 v17 v18 : Value) (h : H) : kPath Tryd.prog call (bodyOf Tryd.prog 74) [1, 0, 1, 0] (kEnd Tryd.prog 74) .ret ⟨#[v0, v1, v2, v3, v4, v5, v6, v7, v8, v9, v10, v11, v12, v13, v14, v15, v16, v17, v18], []⟩ h =
  some (v4, h) := by kernel_rfl

end Go.Proofs.YtfmikgbachnneaaDoor
