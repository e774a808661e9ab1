/- Printed: what functions compute, each by the evaluator's own unfolding. -/
import Derived.Test.YtfmikgbachnneaaDoorChecked
import Derived.Test.YtfmikgbachnneaaDoorAm18
set_option linter.unusedSimpArgs false
set_option linter.unusedVariables false
namespace Go.Proofs.YtfmikgbachnneaaDoor
open Go Go.Am
set_option maxRecDepth 100000

/-! 32: (*orpiment/attributes.register[orpiment/attributes.Block]).sorted -/
def T32 : List Tab := [⟨0, [3], [], []⟩, ⟨1, [3], [], []⟩, ⟨2, [3, 0, 0, 1, 2], [], []⟩, ⟨3, [2, 0], [], []⟩, ⟨4, [2, 0, 0, 3, 3], [], []⟩, ⟨5, [3, 3, 2], [], []⟩, ⟨6, [3, 3, 2, 2, 3], [], []⟩, ⟨7, [3, 2], [], []⟩, ⟨8, [3, 3], [], []⟩]
theorem tk32 : tabsOk Tryd.prog T32 (bodyOf Tryd.prog 32) = true := by kernel_rfl
theorem f32 (call : CallF) (v0 v1 : Value) (h : H) : kCode Tryd.prog call (bodyOf Tryd.prog 32) ⟨#[v0, v1, undef, undef, undef, undef, undef, undef, undef, undef, undef, undef, undef, undef, undef, undef, undef, undef, undef, undef, undef, undef, undef, undef, undef, undef, undef, undef], []⟩ h (kEnd Tryd.prog 32) =
  bd1 (vP Tryd.prog (.nilCheck (.const v0)) 0) fun x9 =>
  bd1 (vP Tryd.prog (.fieldAddr 71 (.const x9) 0) 0) fun x10 =>
  bd1 (vR Tryd.prog (.load 69 (.const x10)) 69 h) fun x11 =>
  bd2 (vE Tryd.prog call (.range 69 (.const x11)) 0 h) fun x12 h1 =>
  kCode Tryd.prog call (codeAt (bodyOf Tryd.prog 32) [1, 1, 0, 1, 0]) ⟨#[v0, v1, undef, undef, (.slice none 0 0), (.slice none 0 0), undef, undef, v0, x9, x10, x11, x12, undef, undef, undef, undef, undef, undef, undef, undef, undef, undef, undef, undef, undef, undef, undef], []⟩ h1 (kPath Tryd.prog call (bodyOf Tryd.prog 32) [1, 1, 0, 1, 0] (kEnd Tryd.prog 32)) := textL T32 28 tk32 rfl (by kernel_rfl)
theorem f32_l11010 (call : CallF) (v0 v1 v2 v3 v4 v5 v6 v7 v8 v9 v10 v11 v12 v13 v14 v15 v16 v17 v18 v19 v20 v21 v22 v23 v24 v25 v26 v27 : Value) (h : H) (k : Exit → Act → H → Option (Value × H)) : kCode Tryd.prog call (codeAt (bodyOf Tryd.prog 32) [1, 1, 0, 1, 0, 0]) ⟨#[v0, v1, v2, v3, v4, v5, v6, v7, v8, v9, v10, v11, v12, v13, v14, v15, v16, v17, v18, v19, v20, v21, v22, v23, v24, v25, v26, v27], []⟩ h (again Tryd.prog call (codeAt (bodyOf Tryd.prog 32) [1, 1, 0, 1, 0, 0]) k) =
  bd2 (vE Tryd.prog call (.next (.const v12) false) 0 h) fun x13 h1 =>
  bd1 (vP Tryd.prog (.extract (.const x13) 0) 4) fun x14 =>
  ifV x14
    (bd2 (vE Tryd.prog call (.entry (.const v12)) 0 h1) fun x15 h2 =>
      bd1 (vP Tryd.prog (.extract (.const x15) 0) 3) fun x16 =>
      bd1 (vP Tryd.prog (.extract (.const x15) 1) 83) fun x17 =>
      bd2 (vE Tryd.prog call (.call ⟨.value (.const v1), #[(.const x17)], #[83]⟩) 4 h2) fun x20 h3 =>
      ifV x20
        (bd2 (vE Tryd.prog call (.buildSlice 24 1 #[(0, (.const x16))]) 24 h3) fun x23 h4 =>
          bd2 (vE Tryd.prog call (.call ⟨.builtin .append, #[(.const v5), (.const x23)], #[24, 24]⟩) 24 h4) fun x24 h5 =>
          kCode Tryd.prog call (codeAt (bodyOf Tryd.prog 32) [1, 1, 0, 1, 0]) ⟨#[v0, v1, v2, v3, v4, x24, x16, x17, v8, v9, v10, v11, v12, x13, (.bool true), x15, x16, x17, v1, x17, (.bool true), v5, x16, x23, x24, v25, v26, v27], []⟩ h5 k)
        (kCode Tryd.prog call (codeAt (bodyOf Tryd.prog 32) [1, 1, 0, 1, 0]) ⟨#[v0, v1, v2, v3, v4, v5, x16, x17, v8, v9, v10, v11, v12, x13, (.bool true), x15, x16, x17, v1, x17, (.bool false), v21, v22, v23, v24, v25, v26, v27], []⟩ h3 k))
    (k (.exit 0) ⟨#[v0, v1, v2, v3, v4, v5, v6, v7, v8, v9, v10, v11, v12, x13, (.bool false), v15, v16, v17, v18, v19, v20, v21, v22, v23, v24, v25, v26, v27], []⟩ h1) := roundL T32 28 (tabs_at _ _ tk32) rfl (by kernel_rfl)
theorem f32_l11010_eq : (codeAt (bodyOf Tryd.prog 32) [1, 1, 0, 1, 0]) = .loop (codeAt (bodyOf Tryd.prog 32) [1, 1, 0, 1, 0, 0]) := by kernel_rfl
theorem f32_l11010_E0 (call : CallF) (v0 v1 v2 v3 v4 v5 v6 v7 v8 v9 v10 v11 v12 v13 v14 v15 v16 v17 v18 v19 v20 v21 v22 v23 v24 v25 v26 v27 : Value) (h : H) : kPath Tryd.prog call (bodyOf Tryd.prog 32) [1, 1, 0, 1, 0] (kEnd Tryd.prog 32) (.exit 0) ⟨#[v0, v1, v2, v3, v4, v5, v6, v7, v8, v9, v10, v11, v12, v13, v14, v15, v16, v17, v18, v19, v20, v21, v22, v23, v24, v25, v26, v27], []⟩ h =
  bd2 (call 66 #[v5] h) fun x26 h1 =>
  some (v5, h1) := behindL T32 28 tk32 rfl (by kernel_rfl)


/-! 58: (*orpiment/attributes.register[orpiment/attributes.Attr]).sorted -/
def T58 : List Tab := [⟨0, [3], [], []⟩, ⟨1, [3], [], []⟩, ⟨2, [3, 0, 0, 1, 2], [], []⟩, ⟨3, [2, 0], [], []⟩, ⟨4, [2, 0, 0, 3, 3], [], []⟩, ⟨5, [3, 3, 2], [], []⟩, ⟨6, [3, 3, 2, 2, 3], [], []⟩, ⟨7, [3, 2], [], []⟩, ⟨8, [3, 3], [], []⟩]
theorem tk58 : tabsOk Tryd.prog T58 (bodyOf Tryd.prog 58) = true := by kernel_rfl
theorem f58 (call : CallF) (v0 v1 : Value) (h : H) : kCode Tryd.prog call (bodyOf Tryd.prog 58) ⟨#[v0, v1, undef, undef, undef, undef, undef, undef, undef, undef, undef, undef, undef, undef, undef, undef, undef, undef, undef, undef, undef, undef, undef, undef, undef, undef, undef, undef], []⟩ h (kEnd Tryd.prog 58) =
  bd1 (vP Tryd.prog (.nilCheck (.const v0)) 0) fun x9 =>
  bd1 (vP Tryd.prog (.fieldAddr 76 (.const x9) 0) 0) fun x10 =>
  bd1 (vR Tryd.prog (.load 74 (.const x10)) 74 h) fun x11 =>
  bd2 (vE Tryd.prog call (.range 74 (.const x11)) 0 h) fun x12 h1 =>
  kCode Tryd.prog call (codeAt (bodyOf Tryd.prog 58) [1, 1, 0, 1, 0]) ⟨#[v0, v1, undef, undef, (.slice none 0 0), (.slice none 0 0), undef, undef, v0, x9, x10, x11, x12, undef, undef, undef, undef, undef, undef, undef, undef, undef, undef, undef, undef, undef, undef, undef], []⟩ h1 (kPath Tryd.prog call (bodyOf Tryd.prog 58) [1, 1, 0, 1, 0] (kEnd Tryd.prog 58)) := textL T58 28 tk58 rfl (by kernel_rfl)
theorem f58_l11010 (call : CallF) (v0 v1 v2 v3 v4 v5 v6 v7 v8 v9 v10 v11 v12 v13 v14 v15 v16 v17 v18 v19 v20 v21 v22 v23 v24 v25 v26 v27 : Value) (h : H) (k : Exit → Act → H → Option (Value × H)) : kCode Tryd.prog call (codeAt (bodyOf Tryd.prog 58) [1, 1, 0, 1, 0, 0]) ⟨#[v0, v1, v2, v3, v4, v5, v6, v7, v8, v9, v10, v11, v12, v13, v14, v15, v16, v17, v18, v19, v20, v21, v22, v23, v24, v25, v26, v27], []⟩ h (again Tryd.prog call (codeAt (bodyOf Tryd.prog 58) [1, 1, 0, 1, 0, 0]) k) =
  bd2 (vE Tryd.prog call (.next (.const v12) false) 0 h) fun x13 h1 =>
  bd1 (vP Tryd.prog (.extract (.const x13) 0) 4) fun x14 =>
  ifV x14
    (bd2 (vE Tryd.prog call (.entry (.const v12)) 0 h1) fun x15 h2 =>
      bd1 (vP Tryd.prog (.extract (.const x15) 0) 3) fun x16 =>
      bd1 (vP Tryd.prog (.extract (.const x15) 1) 80) fun x17 =>
      bd2 (vE Tryd.prog call (.call ⟨.value (.const v1), #[(.const x17)], #[80]⟩) 4 h2) fun x20 h3 =>
      ifV x20
        (bd2 (vE Tryd.prog call (.buildSlice 24 1 #[(0, (.const x16))]) 24 h3) fun x23 h4 =>
          bd2 (vE Tryd.prog call (.call ⟨.builtin .append, #[(.const v5), (.const x23)], #[24, 24]⟩) 24 h4) fun x24 h5 =>
          kCode Tryd.prog call (codeAt (bodyOf Tryd.prog 58) [1, 1, 0, 1, 0]) ⟨#[v0, v1, v2, v3, v4, x24, x16, x17, v8, v9, v10, v11, v12, x13, (.bool true), x15, x16, x17, v1, x17, (.bool true), v5, x16, x23, x24, v25, v26, v27], []⟩ h5 k)
        (kCode Tryd.prog call (codeAt (bodyOf Tryd.prog 58) [1, 1, 0, 1, 0]) ⟨#[v0, v1, v2, v3, v4, v5, x16, x17, v8, v9, v10, v11, v12, x13, (.bool true), x15, x16, x17, v1, x17, (.bool false), v21, v22, v23, v24, v25, v26, v27], []⟩ h3 k))
    (k (.exit 0) ⟨#[v0, v1, v2, v3, v4, v5, v6, v7, v8, v9, v10, v11, v12, x13, (.bool false), v15, v16, v17, v18, v19, v20, v21, v22, v23, v24, v25, v26, v27], []⟩ h1) := roundL T58 28 (tabs_at _ _ tk58) rfl (by kernel_rfl)
theorem f58_l11010_eq : (codeAt (bodyOf Tryd.prog 58) [1, 1, 0, 1, 0]) = .loop (codeAt (bodyOf Tryd.prog 58) [1, 1, 0, 1, 0, 0]) := by kernel_rfl
theorem f58_l11010_E0 (call : CallF) (v0 v1 v2 v3 v4 v5 v6 v7 v8 v9 v10 v11 v12 v13 v14 v15 v16 v17 v18 v19 v20 v21 v22 v23 v24 v25 v26 v27 : Value) (h : H) : kPath Tryd.prog call (bodyOf Tryd.prog 58) [1, 1, 0, 1, 0] (kEnd Tryd.prog 58) (.exit 0) ⟨#[v0, v1, v2, v3, v4, v5, v6, v7, v8, v9, v10, v11, v12, v13, v14, v15, v16, v17, v18, v19, v20, v21, v22, v23, v24, v25, v26, v27], []⟩ h =
  bd2 (call 66 #[v5] h) fun x26 h1 =>
  some (v5, h1) := behindL T58 28 tk58 rfl (by kernel_rfl)

theorem f32_p0 (call : CallF) (v0 v1 v2 v3 v4 v5 v6 v7 v8 v9 v10 v11 v12 v13 v14 v15 v16 v17 v18 v19 v20 v21 v22 v23 v24 v25 v26 v27 : Value) (h : H) : kCode Tryd.prog call (codeAt (bodyOf Tryd.prog 32) [0]) ⟨#[v0, v1, v2, v3, v4, v5, v6, v7, v8, v9, v10, v11, v12, v13, v14, v15, v16, v17, v18, v19, v20, v21, v22, v23, v24, v25, v26, v27], []⟩ h (fun e a h => some (e, a, h)) =
  some (.normal, ⟨#[v0, v1, v2, v3, (.slice none 0 0), v5, v6, v7, v8, v9, v10, v11, v12, v13, v14, v15, v16, v17, v18, v19, v20, v21, v22, v23, v24, v25, v26, v27], []⟩, h) := pieceL T32 28 (tabs_at _ _ tk32) rfl (by kernel_rfl)

theorem f32_p10 (call : CallF) (v0 v1 v2 v3 v4 v5 v6 v7 v8 v9 v10 v11 v12 v13 v14 v15 v16 v17 v18 v19 v20 v21 v22 v23 v24 v25 v26 v27 : Value) (h : H) : kCode Tryd.prog call (codeAt (bodyOf Tryd.prog 32) [1, 0]) ⟨#[v0, v1, v2, v3, v4, v5, v6, v7, v8, v9, v10, v11, v12, v13, v14, v15, v16, v17, v18, v19, v20, v21, v22, v23, v24, v25, v26, v27], []⟩ h (fun e a h => some (e, a, h)) =
  some (.normal, ⟨#[v0, v1, v2, v3, v4, (.slice none 0 0), v6, v7, v8, v9, v10, v11, v12, v13, v14, v15, v16, v17, v18, v19, v20, v21, v22, v23, v24, v25, v26, v27], []⟩, h) := pieceL T32 28 (tabs_at _ _ tk32) rfl (by kernel_rfl)

theorem f32_p1100 (call : CallF) (v0 v1 v2 v3 v4 v5 v6 v7 v8 v9 v10 v11 v12 v13 v14 v15 v16 v17 v18 v19 v20 v21 v22 v23 v24 v25 v26 v27 : Value) (h : H) : kCode Tryd.prog call (codeAt (bodyOf Tryd.prog 32) [1, 1, 0, 0]) ⟨#[v0, v1, v2, v3, v4, v5, v6, v7, v8, v9, v10, v11, v12, v13, v14, v15, v16, v17, v18, v19, v20, v21, v22, v23, v24, v25, v26, v27], []⟩ h (fun e a h => some (e, a, h)) =
  bd1 (vP Tryd.prog (.nilCheck (.const v0)) 0) fun x9 =>
  bd1 (vP Tryd.prog (.fieldAddr 71 (.const x9) 0) 0) fun x10 =>
  bd1 (vR Tryd.prog (.load 69 (.const x10)) 69 h) fun x11 =>
  bd2 (vE Tryd.prog call (.range 69 (.const x11)) 0 h) fun x12 h1 =>
  some (.normal, ⟨#[v0, v1, v2, v3, v4, v5, v6, v7, v0, x9, x10, x11, x12, v13, v14, v15, v16, v17, v18, v19, v20, v21, v22, v23, v24, v25, v26, v27], []⟩, h1) := pieceL T32 28 (tabs_at _ _ tk32) rfl (by kernel_rfl)

theorem f32_p1101001 (call : CallF) (v0 v1 v2 v3 v4 v5 v6 v7 v8 v9 v10 v11 v12 v13 v14 v15 v16 v17 v18 v19 v20 v21 v22 v23 v24 v25 v26 v27 : Value) (h : H) : kCode Tryd.prog call (codeAt (bodyOf Tryd.prog 32) [1, 1, 0, 1, 0, 0, 1]) ⟨#[v0, v1, v2, v3, v4, v5, v6, v7, v8, v9, v10, v11, v12, v13, v14, v15, v16, v17, v18, v19, v20, v21, v22, v23, v24, v25, v26, v27], []⟩ h (fun e a h => some (e, a, h)) =
  ifV v14
    (bd2 (vE Tryd.prog call (.entry (.const v12)) 0 h) fun x15 h1 =>
      bd1 (vP Tryd.prog (.extract (.const x15) 0) 3) fun x16 =>
      bd1 (vP Tryd.prog (.extract (.const x15) 1) 83) fun x17 =>
      bd2 (vE Tryd.prog call (.call ⟨.value (.const v1), #[(.const x17)], #[83]⟩) 4 h1) fun x20 h2 =>
      ifV x20
        (bd2 (vE Tryd.prog call (.buildSlice 24 1 #[(0, (.const x16))]) 24 h2) fun x23 h3 =>
          bd2 (vE Tryd.prog call (.call ⟨.builtin .append, #[(.const v5), (.const x23)], #[24, 24]⟩) 24 h3) fun x24 h4 =>
          some (.normal, ⟨#[v0, v1, v2, v3, v4, x24, x16, x17, v8, v9, v10, v11, v12, v13, (.bool true), x15, x16, x17, v1, x17, (.bool true), v5, x16, x23, x24, v25, v26, v27], []⟩, h4))
        (some (.normal, ⟨#[v0, v1, v2, v3, v4, v5, x16, x17, v8, v9, v10, v11, v12, v13, (.bool true), x15, x16, x17, v1, x17, (.bool false), v21, v22, v23, v24, v25, v26, v27], []⟩, h2)))
    (some ((.exit 0), ⟨#[v0, v1, v2, v3, v4, v5, v6, v7, v8, v9, v10, v11, v12, v13, (.bool false), v15, v16, v17, v18, v19, v20, v21, v22, v23, v24, v25, v26, v27], []⟩, h)) := pieceL T32 28 (tabs_at _ _ tk32) rfl (by kernel_rfl)

theorem f32_p1110 (call : CallF) (v0 v1 v2 v3 v4 v5 v6 v7 v8 v9 v10 v11 v12 v13 v14 v15 v16 v17 v18 v19 v20 v21 v22 v23 v24 v25 v26 v27 : Value) (h : H) : kCode Tryd.prog call (codeAt (bodyOf Tryd.prog 32) [1, 1, 1, 0]) ⟨#[v0, v1, v2, v3, v4, v5, v6, v7, v8, v9, v10, v11, v12, v13, v14, v15, v16, v17, v18, v19, v20, v21, v22, v23, v24, v25, v26, v27], []⟩ h (fun e a h => some (e, a, h)) =
  bd2 (call 66 #[v5] h) fun x26 h1 =>
  some (.normal, ⟨#[v0, v1, v2, v3, v4, v5, v6, v7, v8, v9, v10, v11, v12, v13, v14, v15, v16, v17, v18, v19, v20, v21, v22, v23, v24, v5, x26, v27], []⟩, h1) := pieceL T32 28 (tabs_at _ _ tk32) rfl (by kernel_rfl)

theorem f32_p1111 (call : CallF) (v0 v1 v2 v3 v4 v5 v6 v7 v8 v9 v10 v11 v12 v13 v14 v15 v16 v17 v18 v19 v20 v21 v22 v23 v24 v25 v26 v27 : Value) (h : H) : kCode Tryd.prog call (codeAt (bodyOf Tryd.prog 32) [1, 1, 1, 1]) ⟨#[v0, v1, v2, v3, v4, v5, v6, v7, v8, v9, v10, v11, v12, v13, v14, v15, v16, v17, v18, v19, v20, v21, v22, v23, v24, v25, v26, v27], []⟩ h (fun e a h => some (e, a, h)) =
  some (.ret, ⟨#[v0, v1, v2, v3, v5, v5, v6, v7, v8, v9, v10, v11, v12, v13, v14, v15, v16, v17, v18, v19, v20, v21, v22, v23, v24, v25, v26, v5], []⟩, h) := pieceL T32 28 (tabs_at _ _ tk32) rfl (by kernel_rfl)

theorem f58_p0 (call : CallF) (v0 v1 v2 v3 v4 v5 v6 v7 v8 v9 v10 v11 v12 v13 v14 v15 v16 v17 v18 v19 v20 v21 v22 v23 v24 v25 v26 v27 : Value) (h : H) : kCode Tryd.prog call (codeAt (bodyOf Tryd.prog 58) [0]) ⟨#[v0, v1, v2, v3, v4, v5, v6, v7, v8, v9, v10, v11, v12, v13, v14, v15, v16, v17, v18, v19, v20, v21, v22, v23, v24, v25, v26, v27], []⟩ h (fun e a h => some (e, a, h)) =
  some (.normal, ⟨#[v0, v1, v2, v3, (.slice none 0 0), v5, v6, v7, v8, v9, v10, v11, v12, v13, v14, v15, v16, v17, v18, v19, v20, v21, v22, v23, v24, v25, v26, v27], []⟩, h) := pieceL T58 28 (tabs_at _ _ tk58) rfl (by kernel_rfl)

theorem f58_p10 (call : CallF) (v0 v1 v2 v3 v4 v5 v6 v7 v8 v9 v10 v11 v12 v13 v14 v15 v16 v17 v18 v19 v20 v21 v22 v23 v24 v25 v26 v27 : Value) (h : H) : kCode Tryd.prog call (codeAt (bodyOf Tryd.prog 58) [1, 0]) ⟨#[v0, v1, v2, v3, v4, v5, v6, v7, v8, v9, v10, v11, v12, v13, v14, v15, v16, v17, v18, v19, v20, v21, v22, v23, v24, v25, v26, v27], []⟩ h (fun e a h => some (e, a, h)) =
  some (.normal, ⟨#[v0, v1, v2, v3, v4, (.slice none 0 0), v6, v7, v8, v9, v10, v11, v12, v13, v14, v15, v16, v17, v18, v19, v20, v21, v22, v23, v24, v25, v26, v27], []⟩, h) := pieceL T58 28 (tabs_at _ _ tk58) rfl (by kernel_rfl)

theorem f58_p1100 (call : CallF) (v0 v1 v2 v3 v4 v5 v6 v7 v8 v9 v10 v11 v12 v13 v14 v15 v16 v17 v18 v19 v20 v21 v22 v23 v24 v25 v26 v27 : Value) (h : H) : kCode Tryd.prog call (codeAt (bodyOf Tryd.prog 58) [1, 1, 0, 0]) ⟨#[v0, v1, v2, v3, v4, v5, v6, v7, v8, v9, v10, v11, v12, v13, v14, v15, v16, v17, v18, v19, v20, v21, v22, v23, v24, v25, v26, v27], []⟩ h (fun e a h => some (e, a, h)) =
  bd1 (vP Tryd.prog (.nilCheck (.const v0)) 0) fun x9 =>
  bd1 (vP Tryd.prog (.fieldAddr 76 (.const x9) 0) 0) fun x10 =>
  bd1 (vR Tryd.prog (.load 74 (.const x10)) 74 h) fun x11 =>
  bd2 (vE Tryd.prog call (.range 74 (.const x11)) 0 h) fun x12 h1 =>
  some (.normal, ⟨#[v0, v1, v2, v3, v4, v5, v6, v7, v0, x9, x10, x11, x12, v13, v14, v15, v16, v17, v18, v19, v20, v21, v22, v23, v24, v25, v26, v27], []⟩, h1) := pieceL T58 28 (tabs_at _ _ tk58) rfl (by kernel_rfl)

theorem f58_p1101001 (call : CallF) (v0 v1 v2 v3 v4 v5 v6 v7 v8 v9 v10 v11 v12 v13 v14 v15 v16 v17 v18 v19 v20 v21 v22 v23 v24 v25 v26 v27 : Value) (h : H) : kCode Tryd.prog call (codeAt (bodyOf Tryd.prog 58) [1, 1, 0, 1, 0, 0, 1]) ⟨#[v0, v1, v2, v3, v4, v5, v6, v7, v8, v9, v10, v11, v12, v13, v14, v15, v16, v17, v18, v19, v20, v21, v22, v23, v24, v25, v26, v27], []⟩ h (fun e a h => some (e, a, h)) =
  ifV v14
    (bd2 (vE Tryd.prog call (.entry (.const v12)) 0 h) fun x15 h1 =>
      bd1 (vP Tryd.prog (.extract (.const x15) 0) 3) fun x16 =>
      bd1 (vP Tryd.prog (.extract (.const x15) 1) 80) fun x17 =>
      bd2 (vE Tryd.prog call (.call ⟨.value (.const v1), #[(.const x17)], #[80]⟩) 4 h1) fun x20 h2 =>
      ifV x20
        (bd2 (vE Tryd.prog call (.buildSlice 24 1 #[(0, (.const x16))]) 24 h2) fun x23 h3 =>
          bd2 (vE Tryd.prog call (.call ⟨.builtin .append, #[(.const v5), (.const x23)], #[24, 24]⟩) 24 h3) fun x24 h4 =>
          some (.normal, ⟨#[v0, v1, v2, v3, v4, x24, x16, x17, v8, v9, v10, v11, v12, v13, (.bool true), x15, x16, x17, v1, x17, (.bool true), v5, x16, x23, x24, v25, v26, v27], []⟩, h4))
        (some (.normal, ⟨#[v0, v1, v2, v3, v4, v5, x16, x17, v8, v9, v10, v11, v12, v13, (.bool true), x15, x16, x17, v1, x17, (.bool false), v21, v22, v23, v24, v25, v26, v27], []⟩, h2)))
    (some ((.exit 0), ⟨#[v0, v1, v2, v3, v4, v5, v6, v7, v8, v9, v10, v11, v12, v13, (.bool false), v15, v16, v17, v18, v19, v20, v21, v22, v23, v24, v25, v26, v27], []⟩, h)) := pieceL T58 28 (tabs_at _ _ tk58) rfl (by kernel_rfl)

theorem f58_p1110 (call : CallF) (v0 v1 v2 v3 v4 v5 v6 v7 v8 v9 v10 v11 v12 v13 v14 v15 v16 v17 v18 v19 v20 v21 v22 v23 v24 v25 v26 v27 : Value) (h : H) : kCode Tryd.prog call (codeAt (bodyOf Tryd.prog 58) [1, 1, 1, 0]) ⟨#[v0, v1, v2, v3, v4, v5, v6, v7, v8, v9, v10, v11, v12, v13, v14, v15, v16, v17, v18, v19, v20, v21, v22, v23, v24, v25, v26, v27], []⟩ h (fun e a h => some (e, a, h)) =
  bd2 (call 66 #[v5] h) fun x26 h1 =>
  some (.normal, ⟨#[v0, v1, v2, v3, v4, v5, v6, v7, v8, v9, v10, v11, v12, v13, v14, v15, v16, v17, v18, v19, v20, v21, v22, v23, v24, v5, x26, v27], []⟩, h1) := pieceL T58 28 (tabs_at _ _ tk58) rfl (by kernel_rfl)

theorem f58_p1111 (call : CallF) (v0 v1 v2 v3 v4 v5 v6 v7 v8 v9 v10 v11 v12 v13 v14 v15 v16 v17 v18 v19 v20 v21 v22 v23 v24 v25 v26 v27 : Value) (h : H) : kCode Tryd.prog call (codeAt (bodyOf Tryd.prog 58) [1, 1, 1, 1]) ⟨#[v0, v1, v2, v3, v4, v5, v6, v7, v8, v9, v10, v11, v12, v13, v14, v15, v16, v17, v18, v19, v20, v21, v22, v23, v24, v25, v26, v27], []⟩ h (fun e a h => some (e, a, h)) =
  some (.ret, ⟨#[v0, v1, v2, v3, v5, v5, v6, v7, v8, v9, v10, v11, v12, v13, v14, v15, v16, v17, v18, v19, v20, v21, v22, v23, v24, v25, v26, v5], []⟩, h) := pieceL T58 28 (tabs_at _ _ tk58) rfl (by kernel_rfl)

end Go.Proofs.YtfmikgbachnneaaDoor
