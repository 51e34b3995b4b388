/-
  What the functions' code does, piece by piece: printed by a program of the prover's, each checked by the kernel. No statement of this seat stands here.
-/
import Derived.Test.YtkpkmjanikkpoaaGreatDoorP14
namespace Go.Proofs.YtkpkmjanikkpoaaGreatDoor
open Go Go.Dt
set_option maxRecDepth 100000
/- partywall/partywallkit.Mod -/
noncomputable def c7 : Code := bodyC tab 7
noncomputable def c7_1_1_1_1 : Code := subC (bodyC tab 7) [1, 1, 1, 1]
theorem ec7_1_1_1_1 {ρ : Type} (k : K ρ) (T : Rg) (s : St) : denK tab W V 16 c7_1_1_1_1 k T s =
  bindR (mv (T 0)) fun v0 =>
  bindR (mv v0) fun v1 =>
  k.ret (puts 16 T [(15, v0), (4, v1)]) s := by kernel_rfl
theorem ec7 {ρ : Type} (k : K ρ) (a0 a1 : AV) (s : St) : denK tab W V 16 c7 k (argE [a0, a1]) s =
  bindR (mv (intV .i64 0)) fun v0 =>
  bindR (mv a1) fun v1 =>
  bindR (g1 (Dt.binOp tab .lss 3 v1 (intV .i64 1) true)) fun v2 =>
  condR v2
  (bindR (mv (intV .i64 0)) fun v3 =>
  k.ret (puts 16 (argE [a0, a1]) [(4, v0), (5, v1), (6, v2), (4, v3)]) s)
  (bindR (mv a0) fun v4 =>
  bindR (mv a1) fun v5 =>
  bindR (g1 (Dt.binOp tab .rem 3 v4 v5 false)) fun v6 =>
  bindR (mv v6) fun v7 =>
  bindR (mv v7) fun v8 =>
  bindR (g1 (Dt.binOp tab .lss 3 v8 (intV .i64 0) true)) fun v9 =>
  condR v9
  (bindR (mv v7) fun v10 =>
  bindR (mv a1) fun v11 =>
  bindR (g1 (Dt.binOp tab .add 3 v10 v11 false)) fun v12 =>
  bindR (mv v12) fun v13 =>
  denK tab W V 16 c7_1_1_1_1 k (puts 16 (argE [a0, a1]) [(4, v0), (5, v1), (6, v2), (7, v4), (8, v5), (9, v6), (0, v7), (10, v8), (11, v9), (12, v10), (13, v11), (14, v12), (0, v13)]) s)
  (denK tab W V 16 c7_1_1_1_1 k (puts 16 (argE [a0, a1]) [(4, v0), (5, v1), (6, v2), (7, v4), (8, v5), (9, v6), (0, v7), (10, v8), (11, v9)]) s)) := by kernel_rfl
theorem w7 {args : List AV} {s : St} {r : AEnd × St} (hl : args.length ≤ 16) (h : denK tab W V 16 c7 (kRet tab [.tmp 4]) (argE args) s = .ok r) : W 7 args s = .ok r :=
  callW_of (fn := Tryz.f7) (by kernel_rfl) (by kernel_rfl) (by kernel_rfl) (by kernel_rfl) (by kernel_rfl) hl h
theorem r7 (T : Rg) (s : St) : (kRet tab [.tmp 4]).ret T s = .ok (.ret (T 4), s) := eqBy rfl
/- partywall/partywalllaw31.text -/
noncomputable def c9 : Code := bodyC tab 9
theorem ec9 {ρ : Type} (k : K ρ) (a0 : AV) (s : St) : denK tab W V 8 c9 k (argE [a0]) s =
  bindR (mv (str [])) fun v0 =>
  bindR (buildSliceA tab 107 6 [(0, (str [65, 32, 119, 105, 116, 104, 105, 110, 32, 53])), (1, (str [65, 32, 59, 32, 66, 32, 119, 105, 116, 104, 105, 110, 32, 51])), (2, (str [66, 64, 123, 48, 125, 32, 119, 105, 116, 104, 105, 110, 32, 48])), (3, (str [65, 32, 59, 32, 110, 111, 116, 32, 67, 32, 59, 32, 66, 32, 119, 105, 116, 104, 105, 110, 32, 55])), (4, (str [67, 123, 49, 44, 50, 125, 32, 119, 105, 116, 104, 105, 110, 32, 50])), (5, (str [65, 64, 123, 125, 32, 119, 105, 116, 104, 105, 110, 32, 57]))] s.n) fun q1 =>
  bindR (mv a0) fun v2 =>
  bindR (g2 (s.push q1.2) (W 7 [v2, (intV .i64 6)] (s.push q1.2))) fun q3 => retK q3 (fun v4 s5 =>
  bindR (g1 (indexAddr tab 107 q1.1 v4)) fun v6 =>
  bindR (g1 (loadV tab s5 9 v6)) fun v7 =>
  bindR (mv v7) fun v8 =>
  k.ret (puts 8 (argE [a0]) [(2, v0), (3, q1.1), (4, v2), (5, v4), (6, v6), (7, v7), (2, v8)]) s5) k.pan := by kernel_rfl
theorem w9 {args : List AV} {s : St} {r : AEnd × St} (hl : args.length ≤ 8) (h : denK tab W V 8 c9 (kRet tab [.tmp 2]) (argE args) s = .ok r) : W 9 args s = .ok r :=
  callW_of (fn := Tryz.f9) (by kernel_rfl) (by kernel_rfl) (by kernel_rfl) (by kernel_rfl) (by kernel_rfl) hl h
theorem r9 (T : Rg) (s : St) : (kRet tab [.tmp 2]).ret T s = .ok (.ret (T 2), s) := eqBy rfl
/- partywall/tenant.Put -/
noncomputable def c10 : Code := bodyC tab 10
noncomputable def c10_1 : Code := subC (bodyC tab 10) [1]
noncomputable def c10_1_1 : Code := subC (bodyC tab 10) [1, 1]
noncomputable def c10_1_1_1 : Code := subC (bodyC tab 10) [1, 1, 1]
noncomputable def c10_1_1_1_1 : Code := subC (bodyC tab 10) [1, 1, 1, 1]
noncomputable def c10_1_1_1_1_0_1_0_0 : Code := subC (bodyC tab 10) [1, 1, 1, 1, 0, 1, 0, 0]
noncomputable def c10_1_1_1_1_1 : Code := subC (bodyC tab 10) [1, 1, 1, 1, 1]
noncomputable def c10_1_1_1_1_1_1 : Code := subC (bodyC tab 10) [1, 1, 1, 1, 1, 1]
theorem ec10_1 {ρ : Type} (k : K ρ) (T : Rg) (s : St) : denK tab W V 115 c10_1 k T s =
  bindR (g1 (loadV tab s 33 (T 6))) fun v0 =>
  bindR (g1 (loadV tab s 36 (T 7))) fun v1 =>
  bindR (g1 (loadV tab s 29 (T 8))) fun v2 =>
  bindR (g2 s (W 20 [v0, v1, v2] s)) fun q3 => retK q3 (fun v4 s5 =>
  bindR (mv v4) fun v6 =>
  denK tab W V 115 c10_1_1 k (puts 115 T [(17, v0), (18, v1), (19, v2), (20, v4), (14, v6)]) s5) k.pan := by kernel_rfl
theorem ec10_1_1 {ρ : Type} (k : K ρ) (T : Rg) (s : St) : denK tab W V 115 c10_1_1 k T s =
  bindR (mv (T 14)) fun v0 =>
  bindR (g1 (Dt.binOp tab .neq 39 v0 (intV .i64 0) true)) fun v1 =>
  bindR (mv v1) fun v2 =>
  condR v2
  (denK tab W V 115 c10_1_1_1 k (puts 115 T [(25, v0), (26, v1), (24, v2)]) s)
  (bindR (mv (T 3)) fun v3 =>
  bindR (g1 (Dt.binOp tab .lss 3 v3 (intV .i64 0) true)) fun v4 =>
  bindR (mv v4) fun v5 =>
  bindR (bif isBoolV v5 false then .ok (T 3) else .ok AV.undef) fun v6 =>
  bindR (bif isBoolV v5 false then fieldAddr tab 29 (T 8) 3 else .ok AV.undef) fun v7 =>
  bindR (bif isBoolV v5 false then loadV tab s 24 v7 else .ok AV.undef) fun v8 =>
  bindR (bif isBoolV v5 false then lenV tab 24 v8 else .ok AV.undef) fun v9 =>
  bindR (bif isBoolV v5 false then Dt.binOp tab .geq 3 v6 v9 false else .ok AV.undef) fun v10 =>
  bindR (g1 (pickV v5 (boolV true) v10)) fun v11 =>
  bindR (mv v11) fun v12 =>
  condR v12
  (bindR (mv (intV .i64 2)) fun v13 =>
  denK tab W V 115 c10_1_1_1 k (puts 115 T [(25, v0), (26, v1), (24, v2), (28, v3), (29, v4), (30, v5), (31, v6), (32, v7), (33, v8), (34, v9), (35, v10), (36, v11), (27, v12), (14, v13)]) s)
  (bindR (fieldAddr tab 29 (T 8) 3) fun v14 =>
  bindR (loadV tab s 24 v14) fun v15 => bif (sameR (loadV tab s 24 v14) v15 && true) then
  bindR (.ok (T 3)) fun v16 =>
  bindR (indexAddr tab 24 v15 v16) fun v17 =>
  bindR (fieldAddr tab 71 v17 0) fun v18 =>
  bindR (loadV tab s 3 v18) fun v19 => bif (sameR (loadV tab s 3 v18) v19 && true) then
  bindR (fieldAddr tab 71 (T 10) 0) fun v20 =>
  bindR (loadV tab s 3 v20) fun v21 => bif (sameR (loadV tab s 3 v20) v21 && true) then
  bindR (Dt.binOp tab .neq 3 v19 v21 false) fun v22 =>
  bindR (.ok v22) fun v23 =>
  condR v23
  (bindR (mv (intV .i64 9)) fun v24 =>
  denK tab W V 115 c10_1_1_1 k (puts 115 T [(25, v0), (26, v1), (24, v2), (28, v3), (29, v4), (30, v5), (31, v6), (32, v7), (33, v8), (34, v9), (35, v10), (36, v11), (27, v12), (38, v14), (39, v15), (40, v16), (41, v17), (42, v18), (43, v19), (44, v20), (45, v21), (46, v22), (37, v23), (14, v24)]) s)
  (bindR (g1 (loadV tab s 33 (T 6))) fun v25 =>
  bindR (g1 (loadV tab s 71 (T 10))) fun v26 =>
  bindR (g2 s (W 30 [v25, v26] s)) fun q27 => retK q27 (fun v28 s29 =>
  bindR (mv v28) fun v30 =>
  denK tab W V 115 c10_1_1_1 k (puts 115 T [(25, v0), (26, v1), (24, v2), (28, v3), (29, v4), (30, v5), (31, v6), (32, v7), (33, v8), (34, v9), (35, v10), (36, v11), (27, v12), (38, v14), (39, v15), (40, v16), (41, v17), (42, v18), (43, v19), (44, v20), (45, v21), (46, v22), (37, v23), (21, v25), (22, v26), (23, v28), (14, v30)]) s29) k.pan) else .error "unstable read" else .error "unstable read" else .error "unstable read")) := by kernel_rfl
theorem ec10_1_1_1 {ρ : Type} (k : K ρ) (T : Rg) (s : St) : denK tab W V 115 c10_1_1_1 k T s =
  bindR (mv (T 14)) fun v0 =>
  bindR (g1 (Dt.binOp tab .eql 39 v0 (intV .i64 0) true)) fun v1 =>
  condR v1
  (bindR (g1 (loadV tab s 36 (T 7))) fun v2 =>
  bindR (g1 (loadV tab s 29 (T 8))) fun v3 =>
  bindR (g1 (loadV tab s 71 (T 10))) fun v4 =>
  bindR (g2 s (W 31 [v2, v3, v4] s)) fun q5 => retK q5 (fun v6 s7 =>
  bindR (mv v6) fun v8 =>
  denK tab W V 115 c10_1_1_1_1 k (puts 115 T [(47, v0), (48, v1), (49, v2), (50, v3), (51, v4), (52, v6), (14, v8)]) s7) k.pan)
  (denK tab W V 115 c10_1_1_1_1 k (puts 115 T [(47, v0), (48, v1)]) s) := by kernel_rfl
theorem ec10_1_1_1_1 {ρ : Type} (k : K ρ) (T : Rg) (s : St) : denK tab W V 115 c10_1_1_1_1 k T s =
  bindR (mv (intV .i64 0)) fun v0 =>
  bindR (loopLim (dd tab W V 115 c10_1_1_1_1_0_1_0_0) (puts 115 T [(15, v0)]) s) (K.app (kblk 1 (kseq (denK tab W V 115 c10_1_1_1_1_1 k) k))) := by kernel_rfl
theorem ec10_1_1_1_1_0_1_0_0 {ρ : Type} (k : K ρ) (T : Rg) (s : St) : denK tab W V 115 c10_1_1_1_1_0_1_0_0 k T s =
  bindR (mv (T 15)) fun v0 =>
  bindR (mv (T 5)) fun v1 =>
  bindR (g1 (lenV tab 25 v1)) fun v2 =>
  bindR (g1 (Dt.binOp tab .lss 3 v0 v2 false)) fun v3 =>
  bindR (mv v3) fun v4 =>
  bindR (bif isBoolV v4 true then .ok (T 14) else .ok AV.undef) fun v5 =>
  bindR (bif isBoolV v4 true then Dt.binOp tab .eql 39 v5 (intV .i64 0) true else .ok AV.undef) fun v6 =>
  bindR (g1 (pickV v4 v6 (boolV false))) fun v7 =>
  condR v7
  (bindR (mv (T 5)) fun v8 =>
  bindR (mv (T 15)) fun v9 =>
  bindR (g1 (indexAddr tab 25 v8 v9)) fun v10 =>
  bindR (g1 (loadV tab s 48 v10)) fun v11 =>
  bindR (g2 s (W 32 [v11] s)) fun q12 => retK q12 (fun v13 s14 =>
  bindR (mv v13) fun v15 =>
  bindR (mv (T 15)) fun v16 =>
  bindR (g1 (Dt.binOp tab .add 3 v16 (intV .i64 1) true)) fun v17 =>
  bindR (mv v17) fun v18 =>
  k.nxt (puts 115 T [(53, v0), (54, v1), (55, v2), (56, v3), (57, v4), (58, v5), (59, v6), (60, v7), (63, v8), (64, v9), (65, v10), (66, v11), (67, v13), (14, v15), (61, v16), (62, v17), (15, v18)]) s14) k.pan)
  (k.exit 1 (puts 115 T [(53, v0), (54, v1), (55, v2), (56, v3), (57, v4), (58, v5), (59, v6), (60, v7)]) s) := by kernel_rfl
theorem ec10_1_1_1_1_1 {ρ : Type} (k : K ρ) (T : Rg) (s : St) : denK tab W V 115 c10_1_1_1_1_1 k T s =
  bindR (mv (T 14)) fun v0 =>
  bindR (g1 (Dt.binOp tab .neq 39 v0 (intV .i64 0) true)) fun v1 =>
  condR v1
  (bindR (g1 (Dt.build tab 29 [])) fun v2 =>
  bindR (mv (T 14)) fun v3 =>
  bindR (g3 s (storeV tab s 29 (T 12) v2)) fun s4 =>
  bindR (mv v3) fun v5 =>
  k.ret (puts 115 T [(68, v0), (69, v1), (70, v2), (71, v3), (13, v5)]) s4)
  (denK tab W V 115 c10_1_1_1_1_1_1 k (puts 115 T [(68, v0), (69, v1)]) s) := by kernel_rfl
theorem ec10_1_1_1_1_1_1 {ρ : Type} (k : K ρ) (T : Rg) (s : St) : denK tab W V 115 c10_1_1_1_1_1_1 k T s =
  bindR (g1 (loadV tab s 29 (T 8))) fun v0 =>
  bindR (g2 s (W 29 [v0] s)) fun q1 => retK q1 (fun v2 s3 =>
  bindR (mv v2) fun v4 =>
  bindR (loadV tab s3 71 (T 10)) fun v5 => bif (sameR (loadV tab s3 71 (T 10)) v5 && true) then
  bif ([(AV.func (.func 34) [] []), v5].all fun x => bndA s3.n x) then bindR (g2 s3 (W 34 [v5] s3)) fun q6 => retK q6 (fun v7 s8 =>
  bif Nat.ble s3.n s8.n then bindR (.ok v4) fun v9 =>
  bindR (nilCheckV v9) fun v10 =>
  bindR (fieldAddr tab 106 v10 0) fun v11 =>
  bindR (fieldAddr tab 29 v11 3) fun v12 =>
  bindR (loadV tab s8 24 v12) fun v13 => bif (sameR (loadV tab s8 24 v12) v13 && (sameR (loadV tab s3 24 v12) v13 && true)) then
  bindR (.ok (T 3)) fun v14 =>
  bindR (buildSliceA tab 24 1 [(0, v7)] s8.n) fun q15 => bif bndO (s8.n + 1) q15.2 then
  bif ([(AV.func (.func 33) [] []), v13, v14, q15.1].all fun x => bndA (s8.push q15.2).n x) then bindR (g2 (s8.push q15.2) (W 33 [v13, v14, q15.1] (s8.push q15.2))) fun q16 => retK q16 (fun v17 s18 =>
  bif Nat.ble (s8.push q15.2).n s18.n then bindR (.ok v4) fun v19 =>
  bindR (nilCheckV v19) fun v20 =>
  bindR (fieldAddr tab 106 v20 0) fun v21 =>
  bindR (fieldAddr tab 29 v21 3) fun v22 =>
  bif ([v22, v17].all fun x => bndA s18.n x) then bindR (g3 s18 (storeV tab s18 24 v22 v17)) fun s23 =>
  bif Nat.ble s18.n s23.n then bindR (mv v4) fun v24 =>
  bindR (mv v4) fun v25 =>
  bindR (g1 (nilCheckV v25)) fun v26 =>
  bindR (g1 (fieldAddr tab 106 v26 0)) fun v27 =>
  bindR (g1 (fieldAddr tab 29 v27 4)) fun v28 =>
  bindR (g1 (loadV tab s23 27 v28)) fun v29 =>
  bindR (mv (T 5)) fun v30 =>
  bindR (g2 s23 (W 35 [v29, v30] s23)) fun q31 => retK q31 (fun v32 s33 =>
  bindR (mv v32) fun v34 =>
  bindR (g1 (extractV v34 0)) fun v35 =>
  bindR (g1 (extractV v34 1)) fun v36 =>
  bindR (g1 (extractV v34 2)) fun v37 =>
  bindR (g1 (nilCheckV v24)) fun v38 =>
  bindR (g1 (fieldAddr tab 106 v38 0)) fun v39 =>
  bindR (g1 (fieldAddr tab 29 v39 4)) fun v40 =>
  bindR (g3 s33 (storeV tab s33 27 v40 v35)) fun s41 =>
  bindR (mv v37) fun v42 =>
  bindR (mv v42) fun v43 =>
  bindR (g1 (Dt.binOp tab .neq 39 v43 (intV .i64 0) true)) fun v44 =>
  condR v44
  (bindR (g1 (Dt.build tab 29 [])) fun v45 =>
  bindR (mv v42) fun v46 =>
  bindR (g3 s41 (storeV tab s41 29 (T 12) v45)) fun s47 =>
  bindR (mv v46) fun v48 =>
  k.ret (puts 115 T [(72, v0), (73, v2), (16, v4), (81, v5), (82, v7), (75, v9), (76, v10), (77, v11), (78, v12), (79, v13), (80, v14), (83, q15.1), (84, v17), (74, v19), (85, v20), (86, v21), (87, v22), (89, v24), (90, v25), (91, v26), (92, v27), (93, v28), (94, v29), (95, v30), (96, v32), (88, v34), (97, v35), (98, v36), (99, v37), (100, v38), (101, v39), (102, v40), (14, v42), (103, v43), (104, v44), (105, v45), (106, v46), (13, v48)]) s47)
  (bindR (mv v4) fun v49 =>
  bindR (g1 (nilCheckV v49)) fun v50 =>
  bindR (g1 (fieldAddr tab 106 v50 0)) fun v51 =>
  bindR (g1 (loadV tab s41 29 v51)) fun v52 =>
  bindR (g2 s41 (W 29 [v52] s41)) fun q53 => retK q53 (fun v54 s55 =>
  bindR (g1 (nilCheckV v54)) fun v56 =>
  bindR (g1 (fieldAddr tab 106 v56 0)) fun v57 =>
  bindR (g1 (loadV tab s55 29 v57)) fun v58 =>
  bindR (g3 s55 (storeV tab s55 29 (T 12) v58)) fun s59 =>
  bindR (mv (intV .i64 0)) fun v60 =>
  k.ret (puts 115 T [(72, v0), (73, v2), (16, v4), (81, v5), (82, v7), (75, v9), (76, v10), (77, v11), (78, v12), (79, v13), (80, v14), (83, q15.1), (84, v17), (74, v19), (85, v20), (86, v21), (87, v22), (89, v24), (90, v25), (91, v26), (92, v27), (93, v28), (94, v29), (95, v30), (96, v32), (88, v34), (97, v35), (98, v36), (99, v37), (100, v38), (101, v39), (102, v40), (14, v42), (103, v43), (104, v44), (107, v49), (108, v50), (109, v51), (110, v52), (111, v54), (112, v56), (113, v57), (114, v58), (13, v60)]) s59) k.pan)) k.pan else .error "draw n" else .error "draw ids" else .error "draw n") (fun _ _ => .error "panic in a drawn region") else .error "draw ids" else .error "draw object" else .error "unstable read" else .error "draw n") (fun _ _ => .error "panic in a drawn region") else .error "draw ids" else .error "unstable read") k.pan := by kernel_rfl
theorem ec10 {ρ : Type} (k : K ρ) (a0 a1 a2 a3 a4 a5 : AV) (s : St) : denK tab W V 115 c10 k (argE [a0, a1, a2, a3, a4, a5]) s =
  bindR (boxA tab 33 a0 s.n) fun q0 =>
  bindR (boxA tab 36 a1 (s.push q0.2).n) fun q1 =>
  bindR (boxA tab 29 a2 ((s.push q0.2).push q1.2).n) fun q2 =>
  bindR (boxA tab 71 a4 (((s.push q0.2).push q1.2).push q2.2).n) fun q3 =>
  bindR (allocA tab 29 ((((s.push q0.2).push q1.2).push q2.2).push q3.2).n) fun q4 =>
  bindR (mv (intV .i64 0)) fun v5 =>
  denK tab W V 115 c10_1 k (puts 115 (argE [a0, a1, a2, a3, a4, a5]) [(6, q0.1), (7, q1.1), (8, q2.1), (10, q3.1), (12, q4.1), (13, v5)]) (((((s.push q0.2).push q1.2).push q2.2).push q3.2).push q4.2) := by kernel_rfl
theorem w10 {args : List AV} {s : St} {r : AEnd × St} (hl : args.length ≤ 115) (h : denK tab W V 115 c10 (kRet tab [.cell 12 29, .tmp 13]) (argE args) s = .ok r) : W 10 args s = .ok r :=
  callW_of (fn := Tryz.f10) (by kernel_rfl) (by kernel_rfl) (by kernel_rfl) (by kernel_rfl) (by kernel_rfl) hl h
/- partywall/tenant.Poll -/
noncomputable def c12 : Code := bodyC tab 12
noncomputable def c12_1 : Code := subC (bodyC tab 12) [1]
theorem ec12_1 {ρ : Type} (k : K ρ) (T : Rg) (s : St) : denK tab W V 46 c12_1 k T s =
  bindR (g1 (loadV tab s 33 (T 4))) fun v0 =>
  bindR (g1 (loadV tab s 36 (T 5))) fun v1 =>
  bindR (g1 (loadV tab s 29 (T 6))) fun v2 =>
  bindR (g2 s (W 20 [v0, v1, v2] s)) fun q3 => retK q3 (fun v4 s5 =>
  bindR (mv v4) fun v6 =>
  bindR (mv v6) fun v7 =>
  bindR (g1 (Dt.binOp tab .neq 39 v7 (intV .i64 0) true)) fun v8 =>
  condR v8
  (bindR (g1 (Dt.build tab 29 [])) fun v9 =>
  bindR (mv v6) fun v10 =>
  bindR (g3 s5 (storeV tab s5 29 (T 8) v9)) fun s11 =>
  bindR (mv (AV.base (.slice none 0 0))) fun v12 =>
  bindR (mv v10) fun v13 =>
  k.ret (puts 46 T [(12, v0), (13, v1), (14, v2), (15, v4), (10, v6), (16, v7), (17, v8), (18, v9), (19, v10), (9, v12), (10, v13)]) s11)
  (bindR (g1 (loadV tab s5 29 (T 6))) fun v14 =>
  bindR (g2 s5 (W 29 [v14] s5)) fun q15 => retK q15 (fun v16 s17 =>
  bindR (mv v16) fun v18 =>
  bindR (mv v18) fun v19 =>
  bindR (mv v18) fun v20 =>
  bindR (g1 (nilCheckV v20)) fun v21 =>
  bindR (g1 (fieldAddr tab 106 v21 0)) fun v22 =>
  bindR (g1 (fieldAddr tab 29 v22 4)) fun v23 =>
  bindR (g1 (loadV tab s17 27 v23)) fun v24 =>
  bindR (mv (T 3)) fun v25 =>
  bindR (g2 s17 (W 39 [v24, v25] s17)) fun q26 => retK q26 (fun v27 s28 =>
  bindR (mv v27) fun v29 =>
  bindR (g1 (extractV v29 0)) fun v30 =>
  bindR (g1 (extractV v29 1)) fun v31 =>
  bindR (g1 (extractV v29 2)) fun v32 =>
  bindR (g1 (nilCheckV v19)) fun v33 =>
  bindR (g1 (fieldAddr tab 106 v33 0)) fun v34 =>
  bindR (g1 (fieldAddr tab 29 v34 4)) fun v35 =>
  bindR (g3 s28 (storeV tab s28 27 v35 v30)) fun s36 =>
  bindR (mv v31) fun v37 =>
  bindR (mv v32) fun v38 =>
  bindR (mv v38) fun v39 =>
  bindR (g1 (Dt.binOp tab .neq 39 v39 (intV .i64 0) true)) fun v40 =>
  condR v40
  (bindR (g1 (Dt.build tab 29 [])) fun v41 =>
  bindR (mv v38) fun v42 =>
  bindR (g3 s36 (storeV tab s36 29 (T 8) v41)) fun s43 =>
  bindR (mv (AV.base (.slice none 0 0))) fun v44 =>
  bindR (mv v42) fun v45 =>
  k.ret (puts 46 T [(12, v0), (13, v1), (14, v2), (15, v4), (10, v6), (16, v7), (17, v8), (20, v14), (21, v16), (11, v18), (23, v19), (24, v20), (25, v21), (26, v22), (27, v23), (28, v24), (29, v25), (30, v27), (22, v29), (31, v30), (32, v31), (33, v32), (34, v33), (35, v34), (36, v35), (9, v37), (10, v38), (37, v39), (38, v40), (39, v41), (40, v42), (9, v44), (10, v45)]) s43)
  (bindR (mv v18) fun v46 =>
  bindR (g1 (nilCheckV v46)) fun v47 =>
  bindR (g1 (fieldAddr tab 106 v47 0)) fun v48 =>
  bindR (g1 (loadV tab s36 29 v48)) fun v49 =>
  bindR (mv v37) fun v50 =>
  bindR (g3 s36 (storeV tab s36 29 (T 8) v49)) fun s51 =>
  bindR (mv v50) fun v52 =>
  bindR (mv (intV .i64 0)) fun v53 =>
  k.ret (puts 46 T [(12, v0), (13, v1), (14, v2), (15, v4), (10, v6), (16, v7), (17, v8), (20, v14), (21, v16), (11, v18), (23, v19), (24, v20), (25, v21), (26, v22), (27, v23), (28, v24), (29, v25), (30, v27), (22, v29), (31, v30), (32, v31), (33, v32), (34, v33), (35, v34), (36, v35), (9, v37), (10, v38), (37, v39), (38, v40), (41, v46), (42, v47), (43, v48), (44, v49), (45, v50), (9, v52), (10, v53)]) s51)) k.pan) k.pan)) k.pan := by kernel_rfl
theorem ec12 {ρ : Type} (k : K ρ) (a0 a1 a2 a3 : AV) (s : St) : denK tab W V 46 c12 k (argE [a0, a1, a2, a3]) s =
  bindR (boxA tab 33 a0 s.n) fun q0 =>
  bindR (boxA tab 36 a1 (s.push q0.2).n) fun q1 =>
  bindR (boxA tab 29 a2 ((s.push q0.2).push q1.2).n) fun q2 =>
  bindR (allocA tab 29 (((s.push q0.2).push q1.2).push q2.2).n) fun q3 =>
  bindR (mv (AV.base (.slice none 0 0))) fun v4 =>
  bindR (mv (intV .i64 0)) fun v5 =>
  denK tab W V 46 c12_1 k (puts 46 (argE [a0, a1, a2, a3]) [(4, q0.1), (5, q1.1), (6, q2.1), (8, q3.1), (9, v4), (10, v5)]) ((((s.push q0.2).push q1.2).push q2.2).push q3.2) := by kernel_rfl
theorem w12 {args : List AV} {s : St} {r : AEnd × St} (hl : args.length ≤ 46) (h : denK tab W V 46 c12 (kRet tab [.cell 8 29, .tmp 9, .tmp 10]) (argE args) s = .ok r) : W 12 args s = .ok r :=
  callW_of (fn := Tryz.f12) (by kernel_rfl) (by kernel_rfl) (by kernel_rfl) (by kernel_rfl) (by kernel_rfl) hl h
/- partywall/partywallkit.SameItems -/
noncomputable def c13 : Code := bodyC tab 13
noncomputable def c13_1_1_0_1_0_0 : Code := subC (bodyC tab 13) [1, 1, 0, 1, 0, 0]
noncomputable def c13_1_1_1 : Code := subC (bodyC tab 13) [1, 1, 1]
theorem ec13_1_1_0_1_0_0 {ρ : Type} (k : K ρ) (T : Rg) (s : St) : denK tab W V 27 c13_1_1_0_1_0_0 k T s =
  bindR (mv (T 5)) fun v0 =>
  bindR (mv (T 0)) fun v1 =>
  bindR (g1 (lenV tab 25 v1)) fun v2 =>
  bindR (g1 (Dt.binOp tab .lss 3 v0 v2 false)) fun v3 =>
  condR v3
  (bindR (.ok (T 0)) fun v4 =>
  bindR (.ok (T 5)) fun v5 =>
  bindR (indexAddr tab 25 v4 v5) fun v6 =>
  bindR (loadV tab s 48 v6) fun v7 => bif (sameR (loadV tab s 48 v6) v7 && true) then
  bindR (.ok (T 1)) fun v8 =>
  bindR (.ok (T 5)) fun v9 =>
  bindR (indexAddr tab 25 v8 v9) fun v10 =>
  bindR (loadV tab s 48 v10) fun v11 => bif (sameR (loadV tab s 48 v10) v11 && true) then
  bif ([(AV.func (.func 40) [] []), v7, v11].all fun x => bndA s.n x) then bindR (g2 s (W 40 [v7, v11] s)) fun q12 => retK q12 (fun v13 s14 =>
  bif Nat.ble s.n s14.n then bindR (Dt.unOp .not v13) fun v15 =>
  condR v15
  (bindR (mv (boolV false)) fun v16 =>
  k.ret (puts 27 T [(11, v0), (12, v1), (13, v2), (14, v3), (17, v4), (18, v5), (19, v6), (20, v7), (21, v8), (22, v9), (23, v10), (24, v11), (25, v13), (26, v15), (4, v16)]) s14)
  (bindR (mv (T 5)) fun v17 =>
  bindR (g1 (Dt.binOp tab .add 3 v17 (intV .i64 1) true)) fun v18 =>
  bindR (mv v18) fun v19 =>
  k.nxt (puts 27 T [(11, v0), (12, v1), (13, v2), (14, v3), (17, v4), (18, v5), (19, v6), (20, v7), (21, v8), (22, v9), (23, v10), (24, v11), (25, v13), (26, v15), (15, v17), (16, v18), (5, v19)]) s14) else .error "draw n") (fun _ _ => .error "panic in a drawn region") else .error "draw ids" else .error "unstable read" else .error "unstable read")
  (k.exit 0 (puts 27 T [(11, v0), (12, v1), (13, v2), (14, v3)]) s) := by kernel_rfl
theorem ec13_1_1_1 {ρ : Type} (k : K ρ) (T : Rg) (s : St) : denK tab W V 27 c13_1_1_1 k T s =
  bindR (mv (boolV true)) fun v0 =>
  k.ret (puts 27 T [(4, v0)]) s := by kernel_rfl
theorem ec13 {ρ : Type} (k : K ρ) (a0 a1 : AV) (s : St) : denK tab W V 27 c13 k (argE [a0, a1]) s =
  bindR (mv (boolV false)) fun v0 =>
  bindR (mv a0) fun v1 =>
  bindR (g1 (lenV tab 25 v1)) fun v2 =>
  bindR (mv a1) fun v3 =>
  bindR (g1 (lenV tab 25 v3)) fun v4 =>
  bindR (g1 (Dt.binOp tab .neq 3 v2 v4 false)) fun v5 =>
  condR v5
  (bindR (mv (boolV false)) fun v6 =>
  k.ret (puts 27 (argE [a0, a1]) [(4, v0), (6, v1), (7, v2), (8, v3), (9, v4), (10, v5), (4, v6)]) s)
  (bindR (mv (intV .i64 0)) fun v7 =>
  bindR (loopLim (dd tab W V 27 c13_1_1_0_1_0_0) (puts 27 (argE [a0, a1]) [(4, v0), (6, v1), (7, v2), (8, v3), (9, v4), (10, v5), (5, v7)]) s) (K.app (kblk 0 (kseq (denK tab W V 27 c13_1_1_1 k) k)))) := by kernel_rfl
theorem w13 {args : List AV} {s : St} {r : AEnd × St} (hl : args.length ≤ 27) (h : denK tab W V 27 c13 (kRet tab [.tmp 4]) (argE args) s = .ok r) : W 13 args s = .ok r :=
  callW_of (fn := Tryz.f13) (by kernel_rfl) (by kernel_rfl) (by kernel_rfl) (by kernel_rfl) (by kernel_rfl) hl h
theorem r13 (T : Rg) (s : St) : (kRet tab [.tmp 4]).ret T s = .ok (.ret (T 4), s) := eqBy rfl
/- partywall/tenant.registered -/
noncomputable def c20 : Code := bodyC tab 20
noncomputable def c20_1_1_1 : Code := subC (bodyC tab 20) [1, 1, 1]
theorem ec20_1_1_1 {ρ : Type} (k : K ρ) (T : Rg) (s : St) : denK tab W V 20 c20_1_1_1 k T s =
  bindR (mv (T 7)) fun v0 =>
  bindR (mv v0) fun v1 =>
  k.ret (puts 20 T [(19, v0), (6, v1)]) s := by kernel_rfl
theorem ec20 {ρ : Type} (k : K ρ) (a0 a1 a2 : AV) (s : St) : denK tab W V 20 c20 k (argE [a0, a1, a2]) s =
  bindR (boxA tab 33 a0 s.n) fun q0 =>
  bindR (boxA tab 36 a1 (s.push q0.2).n) fun q1 =>
  bindR (boxA tab 29 a2 ((s.push q0.2).push q1.2).n) fun q2 =>
  bindR (mv (intV .i64 0)) fun v3 =>
  bindR (g1 (loadV tab (((s.push q0.2).push q1.2).push q2.2) 33 q0.1)) fun v4 =>
  bindR (g1 (loadV tab (((s.push q0.2).push q1.2).push q2.2) 36 q1.1)) fun v5 =>
  bindR (g1 (loadV tab (((s.push q0.2).push q1.2).push q2.2) 29 q2.1)) fun v6 =>
  bindR (g2 (((s.push q0.2).push q1.2).push q2.2) (W 43 [v4, v5, v6] (((s.push q0.2).push q1.2).push q2.2))) fun q7 => retK q7 (fun v8 s9 =>
  bindR (mv v8) fun v10 =>
  bindR (mv v10) fun v11 =>
  bindR (g1 (Dt.binOp tab .eql 39 v11 (intV .i64 0) true)) fun v12 =>
  bindR (mv v12) fun v13 =>
  bindR (bif isBoolV v13 true then fieldAddr tab 29 q2.1 0 else .ok AV.undef) fun v14 =>
  bindR (bif isBoolV v13 true then loadV tab s9 4 v14 else .ok AV.undef) fun v15 =>
  bindR (bif isBoolV v13 true then Dt.unOp .not v15 else .ok AV.undef) fun v16 =>
  bindR (g1 (pickV v13 v16 (boolV false))) fun v17 =>
  condR v17
  (bindR (mv (intV .i64 7)) fun v18 =>
  denK tab W V 20 c20_1_1_1 k (puts 20 (argE [a0, a1, a2]) [(3, q0.1), (4, q1.1), (5, q2.1), (6, v3), (8, v4), (9, v5), (10, v6), (11, v8), (7, v10), (12, v11), (13, v12), (14, v13), (15, v14), (16, v15), (17, v16), (18, v17), (7, v18)]) s9)
  (denK tab W V 20 c20_1_1_1 k (puts 20 (argE [a0, a1, a2]) [(3, q0.1), (4, q1.1), (5, q2.1), (6, v3), (8, v4), (9, v5), (10, v6), (11, v8), (7, v10), (12, v11), (13, v12), (14, v13), (15, v14), (16, v15), (17, v16), (18, v17)]) s9)) k.pan := by kernel_rfl
theorem w20 {args : List AV} {s : St} {r : AEnd × St} (hl : args.length ≤ 20) (h : denK tab W V 20 c20 (kRet tab [.tmp 6]) (argE args) s = .ok r) : W 20 args s = .ok r :=
  callW_of (fn := Tryz.f20) (by kernel_rfl) (by kernel_rfl) (by kernel_rfl) (by kernel_rfl) (by kernel_rfl) hl h
theorem r20 (T : Rg) (s : St) : (kRet tab [.tmp 6]).ret T s = .ok (.ret (T 6), s) := eqBy rfl
/- partywall/tenant.own -/
noncomputable def c29 : Code := bodyC tab 29
noncomputable def c29_1_1 : Code := subC (bodyC tab 29) [1, 1]
noncomputable def c29_1_1_1 : Code := subC (bodyC tab 29) [1, 1, 1]
noncomputable def c29_1_1_1_0_1_0_0 : Code := subC (bodyC tab 29) [1, 1, 1, 0, 1, 0, 0]
noncomputable def c29_1_1_1_1 : Code := subC (bodyC tab 29) [1, 1, 1, 1]
noncomputable def c29_1_1_1_1_1_0_1_0_0 : Code := subC (bodyC tab 29) [1, 1, 1, 1, 1, 0, 1, 0, 0]
noncomputable def c29_1_1_1_1_1_1 : Code := subC (bodyC tab 29) [1, 1, 1, 1, 1, 1]
theorem ec29_1_1 {ρ : Type} (k : K ρ) (T : Rg) (s : St) : denK tab W V 66 c29_1_1 k T s =
  bindR (mv (T 3)) fun v0 =>
  bindR (g1 (nilCheckV v0)) fun v1 =>
  bindR (g1 (fieldAddr tab 106 v1 0)) fun v2 =>
  bindR (g1 (fieldAddr tab 29 v2 3)) fun v3 =>
  bindR (g3 s (storeV tab s 24 v3 (AV.base (.slice none 0 0)))) fun s4 =>
  denK tab W V 66 c29_1_1_1 k (puts 66 T [(11, v0), (12, v1), (13, v2), (14, v3)]) s4 := by kernel_rfl
theorem ec29_1_1_1 {ρ : Type} (k : K ρ) (T : Rg) (s : St) : denK tab W V 66 c29_1_1_1 k T s =
  bindR (g1 (fieldAddr tab 29 (T 1) 3)) fun v0 =>
  bindR (g1 (loadV tab s 24 v0)) fun v1 =>
  bindR (g1 (lenV tab 24 v1)) fun v2 =>
  bindR (mv (intV .i64 0)) fun v3 =>
  bindR (loopLim (dd tab W V 66 c29_1_1_1_0_1_0_0) (puts 66 T [(15, v0), (16, v1), (17, v2), (18, v3)]) s) (K.app (kblk 0 (kseq (denK tab W V 66 c29_1_1_1_1 k) k))) := by kernel_rfl
theorem ec29_1_1_1_0_1_0_0 {ρ : Type} (k : K ρ) (T : Rg) (s : St) : denK tab W V 66 c29_1_1_1_0_1_0_0 k T s =
  bindR (g1 (Dt.binOp tab .lss 3 (T 18) (T 17) false)) fun v0 =>
  condR v0
  (bindR (g1 (indexAddr tab 24 (T 16) (T 18))) fun v1 =>
  bindR (g1 (loadV tab s 71 v1)) fun v2 =>
  bindR (allocA tab 71 s.n) fun q3 =>
  bindR (g3 (s.push q3.2) (storeV tab (s.push q3.2) 71 q3.1 v2)) fun s4 =>
  bindR (loadV tab s4 71 q3.1) fun v5 => bif (sameR (loadV tab s4 71 q3.1) v5 && true) then
  bif ([(AV.func (.func 34) [] []), v5].all fun x => bndA s4.n x) then bindR (g2 s4 (W 34 [v5] s4)) fun q6 => retK q6 (fun v7 s8 =>
  bif Nat.ble s4.n s8.n then bindR (.ok (T 3)) fun v9 =>
  bindR (nilCheckV v9) fun v10 =>
  bindR (fieldAddr tab 106 v10 0) fun v11 =>
  bindR (fieldAddr tab 29 v11 3) fun v12 =>
  bindR (loadV tab s8 24 v12) fun v13 => bif (sameR (loadV tab s8 24 v12) v13 && (sameR (loadV tab s4 24 v12) v13 && true)) then
  bindR (buildSliceA tab 24 1 [(0, v7)] s8.n) fun q14 => bif bndO (s8.n + 1) q14.2 then
  bif ([v13, q14.1].all fun x => bndA (s8.push q14.2).n x) then bindR (g4 (s8.push q14.2) (appendV tab (s8.push q14.2) 24 24 v13 q14.1)) fun q15 =>
  bif Nat.ble (s8.push q14.2).n q15.2.n then bindR (.ok (T 3)) fun v16 =>
  bindR (nilCheckV v16) fun v17 =>
  bindR (fieldAddr tab 106 v17 0) fun v18 =>
  bindR (fieldAddr tab 29 v18 3) fun v19 =>
  bif ([v19, q15.1].all fun x => bndA q15.2.n x) then bindR (g3 q15.2 (storeV tab q15.2 24 v19 q15.1)) fun s20 =>
  bif Nat.ble q15.2.n s20.n then bindR (g1 (Dt.binOp tab .add 3 (T 18) (intV .i64 1) true)) fun v21 =>
  bindR (mv v21) fun v22 =>
  k.nxt (puts 66 T [(19, v0), (20, v1), (21, v2), (5, q3.1), (28, v5), (29, v7), (23, v9), (24, v10), (25, v11), (26, v12), (27, v13), (30, q14.1), (31, q15.1), (22, v16), (32, v17), (33, v18), (34, v19), (35, v21), (18, v22)]) s20 else .error "draw n" else .error "draw ids" else .error "draw n" else .error "draw ids" else .error "draw object" else .error "unstable read" else .error "draw n") (fun _ _ => .error "panic in a drawn region") else .error "draw ids" else .error "unstable read")
  (k.exit 0 (puts 66 T [(19, v0)]) s) := by kernel_rfl
theorem ec29_1_1_1_1 {ρ : Type} (k : K ρ) (T : Rg) (s : St) : denK tab W V 66 c29_1_1_1_1 k T s =
  bindR (mv (T 3)) fun v0 =>
  bindR (g1 (nilCheckV v0)) fun v1 =>
  bindR (g1 (fieldAddr tab 106 v1 0)) fun v2 =>
  bindR (g1 (fieldAddr tab 29 v2 4)) fun v3 =>
  bindR (g1 (fieldAddr tab 27 v3 1)) fun v4 =>
  bindR (g3 s (storeV tab s 25 v4 (AV.base (.slice none 0 0)))) fun s5 =>
  bindR (g1 (fieldAddr tab 29 (T 1) 4)) fun v6 =>
  bindR (g1 (fieldAddr tab 27 v6 1)) fun v7 =>
  bindR (g1 (loadV tab s5 25 v7)) fun v8 =>
  bindR (g1 (lenV tab 25 v8)) fun v9 =>
  bindR (mv (intV .i64 0)) fun v10 =>
  bindR (loopLim (dd tab W V 66 c29_1_1_1_1_1_0_1_0_0) (puts 66 T [(36, v0), (37, v1), (38, v2), (39, v3), (40, v4), (41, v6), (42, v7), (43, v8), (44, v9), (45, v10)]) s5) (K.app (kblk 2 (kseq (denK tab W V 66 c29_1_1_1_1_1_1 k) k))) := by kernel_rfl
theorem ec29_1_1_1_1_1_0_1_0_0 {ρ : Type} (k : K ρ) (T : Rg) (s : St) : denK tab W V 66 c29_1_1_1_1_1_0_1_0_0 k T s =
  bindR (g1 (Dt.binOp tab .lss 3 (T 45) (T 44) false)) fun v0 =>
  condR v0
  (bindR (g1 (indexAddr tab 25 (T 43) (T 45))) fun v1 =>
  bindR (g1 (loadV tab s 48 v1)) fun v2 =>
  bindR (allocA tab 48 s.n) fun q3 =>
  bindR (g3 (s.push q3.2) (storeV tab (s.push q3.2) 48 q3.1 v2)) fun s4 =>
  bindR (loadV tab s4 48 q3.1) fun v5 => bif (sameR (loadV tab s4 48 q3.1) v5 && true) then
  bif ([(AV.func (.func 59) [] []), v5].all fun x => bndA s4.n x) then bindR (g2 s4 (W 59 [v5] s4)) fun q6 => retK q6 (fun v7 s8 =>
  bif Nat.ble s4.n s8.n then bindR (.ok (T 3)) fun v9 =>
  bindR (nilCheckV v9) fun v10 =>
  bindR (fieldAddr tab 106 v10 0) fun v11 =>
  bindR (fieldAddr tab 29 v11 4) fun v12 =>
  bindR (fieldAddr tab 27 v12 1) fun v13 =>
  bindR (loadV tab s8 25 v13) fun v14 => bif (sameR (loadV tab s8 25 v13) v14 && (sameR (loadV tab s4 25 v13) v14 && true)) then
  bindR (buildSliceA tab 25 1 [(0, v7)] s8.n) fun q15 => bif bndO (s8.n + 1) q15.2 then
  bif ([v14, q15.1].all fun x => bndA (s8.push q15.2).n x) then bindR (g4 (s8.push q15.2) (appendV tab (s8.push q15.2) 25 25 v14 q15.1)) fun q16 =>
  bif Nat.ble (s8.push q15.2).n q16.2.n then bindR (.ok (T 3)) fun v17 =>
  bindR (nilCheckV v17) fun v18 =>
  bindR (fieldAddr tab 106 v18 0) fun v19 =>
  bindR (fieldAddr tab 29 v19 4) fun v20 =>
  bindR (fieldAddr tab 27 v20 1) fun v21 =>
  bif ([v21, q16.1].all fun x => bndA q16.2.n x) then bindR (g3 q16.2 (storeV tab q16.2 25 v21 q16.1)) fun s22 =>
  bif Nat.ble q16.2.n s22.n then bindR (g1 (Dt.binOp tab .add 3 (T 45) (intV .i64 1) true)) fun v23 =>
  bindR (mv v23) fun v24 =>
  k.nxt (puts 66 T [(46, v0), (47, v1), (48, v2), (7, q3.1), (56, v5), (57, v7), (50, v9), (51, v10), (52, v11), (53, v12), (54, v13), (55, v14), (58, q15.1), (59, q16.1), (49, v17), (60, v18), (61, v19), (62, v20), (63, v21), (64, v23), (45, v24)]) s22 else .error "draw n" else .error "draw ids" else .error "draw n" else .error "draw ids" else .error "draw object" else .error "unstable read" else .error "draw n") (fun _ _ => .error "panic in a drawn region") else .error "draw ids" else .error "unstable read")
  (k.exit 2 (puts 66 T [(46, v0)]) s) := by kernel_rfl
theorem ec29_1_1_1_1_1_1 {ρ : Type} (k : K ρ) (T : Rg) (s : St) : denK tab W V 66 c29_1_1_1_1_1_1 k T s =
  bindR (mv (T 3)) fun v0 =>
  bindR (mv v0) fun v1 =>
  k.ret (puts 66 T [(65, v0), (2, v1)]) s := by kernel_rfl
theorem ec29 {ρ : Type} (k : K ρ) (a0 : AV) (s : St) : denK tab W V 66 c29 k (argE [a0]) s =
  bindR (boxA tab 29 a0 s.n) fun q0 =>
  bindR (mv (AV.base (.pointer none))) fun v1 =>
  bindR (g1 (loadV tab (s.push q0.2) 29 q0.1)) fun v2 =>
  bindR (g1 (Dt.build tab 106 [(0, v2)])) fun v3 =>
  bindR (boxA tab 106 v3 (s.push q0.2).n) fun q4 =>
  bindR (mv q4.1) fun v5 =>
  denK tab W V 66 c29_1_1 k (puts 66 (argE [a0]) [(1, q0.1), (2, v1), (8, v2), (9, v3), (10, q4.1), (3, v5)]) ((s.push q0.2).push q4.2) := by kernel_rfl
theorem w29 {args : List AV} {s : St} {r : AEnd × St} (hl : args.length ≤ 66) (h : denK tab W V 66 c29 (kRet tab [.tmp 2]) (argE args) s = .ok r) : W 29 args s = .ok r :=
  callW_of (fn := Tryz.f29) (by kernel_rfl) (by kernel_rfl) (by kernel_rfl) (by kernel_rfl) (by kernel_rfl) hl h
theorem r29 (T : Rg) (s : St) : (kRet tab [.tmp 2]).ret T s = .ok (.ret (T 2), s) := eqBy rfl
/- partywall/tenant.fits -/
noncomputable def c31 : Code := bodyC tab 31
theorem ec31 {ρ : Type} (k : K ρ) (a0 a1 a2 : AV) (s : St) : denK tab W V 21 c31 k (argE [a0, a1, a2]) s =
  bindR (boxA tab 36 a0 s.n) fun q0 =>
  bindR (boxA tab 29 a1 (s.push q0.2).n) fun q1 =>
  bindR (boxA tab 71 a2 ((s.push q0.2).push q1.2).n) fun q2 =>
  bindR (mv (intV .i64 0)) fun v3 =>
  bindR (g1 (fieldAddr tab 71 q2.1 3)) fun v4 =>
  bindR (g1 (fieldAddr tab 68 v4 0)) fun v5 =>
  bindR (g1 (loadV tab (((s.push q0.2).push q1.2).push q2.2) 23 v5)) fun v6 =>
  bindR (g1 (fieldAddr tab 29 q1.1 1)) fun v7 =>
  bindR (g1 (loadV tab (((s.push q0.2).push q1.2).push q2.2) 23 v7)) fun v8 =>
  bindR (g1 (Dt.binOp tab .neq 23 v6 v8 false)) fun v9 =>
  bindR (mv v9) fun v10 =>
  condR v10
  (bindR (mv (intV .i64 13)) fun v11 =>
  k.ret (puts 21 (argE [a0, a1, a2]) [(3, q0.1), (4, q1.1), (5, q2.1), (6, v3), (8, v4), (9, v5), (10, v6), (11, v7), (12, v8), (13, v9), (7, v10), (6, v11)]) (((s.push q0.2).push q1.2).push q2.2))
  (bindR (g1 (fieldAddr tab 71 q2.1 2)) fun v12 =>
  bindR (g1 (fieldAddr tab 65 v12 3)) fun v13 =>
  bindR (g1 (loadV tab (((s.push q0.2).push q1.2).push q2.2) 3 v13)) fun v14 =>
  bindR (g1 (fieldAddr tab 36 q0.1 2)) fun v15 =>
  bindR (g1 (loadV tab (((s.push q0.2).push q1.2).push q2.2) 3 v15)) fun v16 =>
  bindR (g1 (Dt.binOp tab .neq 3 v14 v16 false)) fun v17 =>
  bindR (mv v17) fun v18 =>
  condR v18
  (bindR (mv (intV .i64 3)) fun v19 =>
  k.ret (puts 21 (argE [a0, a1, a2]) [(3, q0.1), (4, q1.1), (5, q2.1), (6, v3), (8, v4), (9, v5), (10, v6), (11, v7), (12, v8), (13, v9), (7, v10), (15, v12), (16, v13), (17, v14), (18, v15), (19, v16), (20, v17), (14, v18), (6, v19)]) (((s.push q0.2).push q1.2).push q2.2))
  (bindR (mv (intV .i64 0)) fun v20 =>
  k.ret (puts 21 (argE [a0, a1, a2]) [(3, q0.1), (4, q1.1), (5, q2.1), (6, v3), (8, v4), (9, v5), (10, v6), (11, v7), (12, v8), (13, v9), (7, v10), (15, v12), (16, v13), (17, v14), (18, v15), (19, v16), (20, v17), (14, v18), (6, v20)]) (((s.push q0.2).push q1.2).push q2.2))) := by kernel_rfl
theorem w31 {args : List AV} {s : St} {r : AEnd × St} (hl : args.length ≤ 21) (h : denK tab W V 21 c31 (kRet tab [.tmp 6]) (argE args) s = .ok r) : W 31 args s = .ok r :=
  callW_of (fn := Tryz.f31) (by kernel_rfl) (by kernel_rfl) (by kernel_rfl) (by kernel_rfl) (by kernel_rfl) hl h
theorem r31 (T : Rg) (s : St) : (kRet tab [.tmp 6]).ret T s = .ok (.ret (T 6), s) := eqBy rfl
/- partywall/tenant.without[partywall/api.Registered] -/
noncomputable def c33 : Code := bodyC tab 33
theorem ec33 {ρ : Type} (k : K ρ) (a0 a1 a2 : AV) (s : St) : denK tab W V 33 c33 k (argE [a0, a1, a2]) s =
  bindR (mv (AV.base (.slice none 0 0))) fun v0 =>
  bindR (mv a0) fun v1 =>
  bindR (g1 (lenV tab 24 v1)) fun v2 =>
  bindR (g1 (Dt.binOp tab .sub 3 v2 (intV .i64 1) true)) fun v3 =>
  bindR (mv a0) fun v4 =>
  bindR (g1 (lenV tab 24 v4)) fun v5 =>
  bindR (mv a2) fun v6 =>
  bindR (g1 (lenV tab 24 v6)) fun v7 =>
  bindR (g1 (Dt.binOp tab .add 3 v5 v7 false)) fun v8 =>
  bindR (makeSliceA tab 24 v3 v8 s.n) fun q9 =>
  bindR (mv q9.1) fun v10 =>
  bindR (mv v10) fun v11 =>
  bindR (mv a0) fun v12 =>
  bindR (mv a1) fun v13 =>
  bindR (g1 (sliceV tab 24 v12 none (some v13) none)) fun v14 =>
  bindR (copyQ tab (s.push q9.2) 24 v11 v14) fun q15 => nextK W V 33 (puts 33 (argE [a0, a1, a2]) [(6, v0), (8, v1), (9, v2), (10, v3), (11, v4), (12, v5), (13, v6), (14, v7), (15, v8), (16, q9.1), (7, v10), (17, v11), (18, v12), (19, v13), (20, v14)]) (some 21) (fun T s16 =>
  bindR (.ok (T 7)) fun v17 =>
  bindR (.ok (T 1)) fun v18 =>
  bindR (sliceV tab 24 v17 (some v18) none none) fun v19 =>
  bindR (.ok (T 0)) fun v20 =>
  bindR (.ok (T 1)) fun v21 =>
  bindR (Dt.binOp tab .add 3 v21 (intV .i64 1) true) fun v22 =>
  bindR (sliceV tab 24 v20 (some v22) none none) fun v23 =>
  bif ([v19, v23].all fun x => bndA s16.n x) then bindR (copyQ tab s16 24 v19 v23) fun q24 => nextK W V 33 (puts 33 T [(22, v17), (23, v18), (24, v19), (25, v20), (26, v21), (27, v22), (28, v23)]) (some 29) (fun T s25 =>
  bif Nat.ble s16.n s25.n then bindR (mv (T 7)) fun v26 =>
  bindR (mv (T 2)) fun v27 =>
  bindR (g4 s25 (appendV tab s25 24 24 v26 v27)) fun q28 =>
  bindR (mv q28.1) fun v29 =>
  k.ret (puts 33 T [(30, v26), (31, v27), (32, q28.1), (6, v29)]) q28.2 else .error "draw n") (fun _ _ => .error "panic in a drawn region") q24.1 q24.2 else .error "draw ids") k.pan q15.1 q15.2 := by kernel_rfl
theorem w33 {args : List AV} {s : St} {r : AEnd × St} (hl : args.length ≤ 33) (h : denK tab W V 33 c33 (kRet tab [.tmp 6]) (argE args) s = .ok r) : W 33 args s = .ok r :=
  callW_of (fn := Tryz.f33) (by kernel_rfl) (by kernel_rfl) (by kernel_rfl) (by kernel_rfl) (by kernel_rfl) hl h
theorem r33 (T : Rg) (s : St) : (kRet tab [.tmp 6]).ret T s = .ok (.ret (T 6), s) := eqBy rfl
/- partywall/queue.PutAll -/
noncomputable def c35 : Code := bodyC tab 35
noncomputable def c35_1 : Code := subC (bodyC tab 35) [1]
noncomputable def c35_1_1_1 : Code := subC (bodyC tab 35) [1, 1, 1]
noncomputable def c35_1_1_1_1_1_0_1_0_0 : Code := subC (bodyC tab 35) [1, 1, 1, 1, 1, 0, 1, 0, 0]
noncomputable def c35_1_1_1_1_1_1 : Code := subC (bodyC tab 35) [1, 1, 1, 1, 1, 1]
noncomputable def c35_1_1_1_1_1_0_1_0_0_1_1_1 : Code := subC (bodyC tab 35) [1, 1, 1, 1, 1, 0, 1, 0, 0, 1, 1, 1]
theorem ec35_1 {ρ : Type} (k : K ρ) (T : Rg) (s : St) : denK tab W V 39 c35_1 k T s =
  bindR (g1 (loadV tab s 27 (T 2))) fun v0 =>
  bindR (g2 s (W 76 [v0] s)) fun q1 => retK q1 (fun v2 s3 =>
  bindR (mv v2) fun v4 =>
  bindR (mv v4) fun v5 =>
  bindR (g1 (Dt.binOp tab .eql 39 v5 (intV .i64 0) true)) fun v6 =>
  condR v6
  (bindR (mv (T 1)) fun v7 =>
  bindR (g2 s3 (W 77 [v7] s3)) fun q8 => retK q8 (fun v9 s10 =>
  bindR (mv v9) fun v11 =>
  denK tab W V 39 c35_1_1_1 k (puts 39 T [(12, v0), (13, v2), (7, v4), (14, v5), (15, v6), (16, v7), (17, v9), (7, v11)]) s10) k.pan)
  (denK tab W V 39 c35_1_1_1 k (puts 39 T [(12, v0), (13, v2), (7, v4), (14, v5), (15, v6)]) s3)) k.pan := by kernel_rfl
theorem ec35_1_1_1 {ρ : Type} (k : K ρ) (T : Rg) (s : St) : denK tab W V 39 c35_1_1_1 k T s =
  bindR (mv (T 7)) fun v0 =>
  bindR (g1 (Dt.binOp tab .neq 39 v0 (intV .i64 0) true)) fun v1 =>
  condR v1
  (bindR (g1 (Dt.build tab 27 [])) fun v2 =>
  bindR (mv (T 7)) fun v3 =>
  bindR (g3 s (storeV tab s 27 (T 4) v2)) fun s4 =>
  bindR (mv (intV .i64 0)) fun v5 =>
  bindR (mv v3) fun v6 =>
  k.ret (puts 39 T [(18, v0), (19, v1), (20, v2), (21, v3), (5, v5), (6, v6)]) s4)
  (bindR (g1 (loadV tab s 27 (T 2))) fun v7 =>
  bindR (g1 (Dt.build tab 202 [(0, v7)])) fun v8 =>
  bindR (allocA tab 202 s.n) fun q9 =>
  bindR (g3 (s.push q9.2) (storeV tab (s.push q9.2) 202 q9.1 v8)) fun s10 =>
  bindR (mv (intV .u64 0)) fun v11 =>
  bindR (mv (T 1)) fun v12 =>
  bindR (g1 (lenV tab 25 v12)) fun v13 =>
  bindR (mv (intV .i64 0)) fun v14 =>
  bindR (loopLim (dd tab W V 39 c35_1_1_1_1_1_0_1_0_0) (puts 39 T [(18, v0), (19, v1), (22, v7), (23, v8), (8, q9.1), (9, v11), (24, v12), (25, v13), (26, v14)]) s10) (K.app (kblk 0 (kseq (denK tab W V 39 c35_1_1_1_1_1_1 k) k)))) := by kernel_rfl
theorem ec35_1_1_1_1_1_0_1_0_0 {ρ : Type} (k : K ρ) (T : Rg) (s : St) : denK tab W V 39 c35_1_1_1_1_1_0_1_0_0 k T s =
  bindR (g1 (Dt.binOp tab .lss 3 (T 26) (T 25) false)) fun v0 =>
  condR v0
  (bindR (g1 (indexAddr tab 25 (T 24) (T 26))) fun v1 =>
  bindR (g1 (loadV tab s 48 v1)) fun v2 =>
  bindR (allocA tab 48 s.n) fun q3 =>
  bindR (g3 (s.push q3.2) (storeV tab (s.push q3.2) 48 q3.1 v2)) fun s4 =>
  bindR (g1 (loadV tab s4 48 q3.1)) fun v5 =>
  bindR (g2 s4 (W 78 [(T 8), v5] s4)) fun q6 => retK q6 (fun v7 s8 =>
  condR v7
  (bindR (mv (T 9)) fun v9 =>
  bindR (g1 (Dt.binOp tab .add 203 v9 (intV .u64 1) true)) fun v10 =>
  bindR (mv v10) fun v11 =>
  denK tab W V 39 c35_1_1_1_1_1_0_1_0_0_1_1_1 k (puts 39 T [(27, v0), (28, v1), (29, v2), (11, q3.1), (30, v5), (31, v7), (32, v9), (33, v10), (9, v11)]) s8)
  (denK tab W V 39 c35_1_1_1_1_1_0_1_0_0_1_1_1 k (puts 39 T [(27, v0), (28, v1), (29, v2), (11, q3.1), (30, v5), (31, v7)]) s8)) k.pan)
  (k.exit 0 (puts 39 T [(27, v0)]) s) := by kernel_rfl
theorem ec35_1_1_1_1_1_1 {ρ : Type} (k : K ρ) (T : Rg) (s : St) : denK tab W V 39 c35_1_1_1_1_1_1 k T s =
  bindR (g1 (fieldAddr tab 202 (T 8) 0)) fun v0 =>
  bindR (g1 (loadV tab s 27 v0)) fun v1 =>
  bindR (mv (T 9)) fun v2 =>
  bindR (g1 (convR tab s 203 3 v2)) fun v3 =>
  bindR (g3 s (storeV tab s 27 (T 4) v1)) fun s4 =>
  bindR (mv v3) fun v5 =>
  bindR (mv (intV .i64 0)) fun v6 =>
  k.ret (puts 39 T [(35, v0), (36, v1), (37, v2), (38, v3), (5, v5), (6, v6)]) s4 := by kernel_rfl
theorem ec35_1_1_1_1_1_0_1_0_0_1_1_1 {ρ : Type} (k : K ρ) (T : Rg) (s : St) : denK tab W V 39 c35_1_1_1_1_1_0_1_0_0_1_1_1 k T s =
  bindR (g1 (Dt.binOp tab .add 3 (T 26) (intV .i64 1) true)) fun v0 =>
  bindR (mv v0) fun v1 =>
  k.nxt (puts 39 T [(34, v0), (26, v1)]) s := by kernel_rfl
theorem ec35 {ρ : Type} (k : K ρ) (a0 a1 : AV) (s : St) : denK tab W V 39 c35 k (argE [a0, a1]) s =
  bindR (boxA tab 27 a0 s.n) fun q0 =>
  bindR (allocA tab 27 (s.push q0.2).n) fun q1 =>
  bindR (mv (intV .i64 0)) fun v2 =>
  bindR (mv (intV .i64 0)) fun v3 =>
  denK tab W V 39 c35_1 k (puts 39 (argE [a0, a1]) [(2, q0.1), (4, q1.1), (5, v2), (6, v3)]) ((s.push q0.2).push q1.2) := by kernel_rfl
theorem w35 {args : List AV} {s : St} {r : AEnd × St} (hl : args.length ≤ 39) (h : denK tab W V 39 c35 (kRet tab [.cell 4 27, .tmp 5, .tmp 6]) (argE args) s = .ok r) : W 35 args s = .ok r :=
  callW_of (fn := Tryz.f35) (by kernel_rfl) (by kernel_rfl) (by kernel_rfl) (by kernel_rfl) (by kernel_rfl) hl h
/- partywall/queue.Poll -/
noncomputable def c39 : Code := bodyC tab 39
noncomputable def c39_1_1_1 : Code := subC (bodyC tab 39) [1, 1, 1]
theorem ec39_1_1_1 {ρ : Type} (k : K ρ) (T : Rg) (s : St) : denK tab W V 33 c39_1_1_1 k T s =
  bindR (mv (T 7)) fun v0 =>
  bindR (g1 (Dt.binOp tab .neq 39 v0 (intV .i64 0) true)) fun v1 =>
  condR v1
  (bindR (g1 (Dt.build tab 27 [])) fun v2 =>
  bindR (mv (T 7)) fun v3 =>
  bindR (g3 s (storeV tab s 27 (T 4) v2)) fun s4 =>
  bindR (mv (AV.base (.slice none 0 0))) fun v5 =>
  bindR (mv v3) fun v6 =>
  k.ret (puts 33 T [(22, v0), (23, v1), (24, v2), (25, v3), (5, v5), (6, v6)]) s4)
  (bindR (g1 (loadV tab s 27 (T 2))) fun v7 =>
  bindR (g1 (Dt.build tab 202 [(0, v7)])) fun v8 =>
  bindR (allocA tab 202 s.n) fun q9 =>
  bindR (g3 (s.push q9.2) (storeV tab (s.push q9.2) 202 q9.1 v8)) fun s10 =>
  bindR (mv (T 1)) fun v11 =>
  bindR (g2 s10 (W 83 [q9.1, v11] s10)) fun q12 => retK q12 (fun v13 s14 =>
  bindR (mv v13) fun v15 =>
  bindR (g1 (fieldAddr tab 202 q9.1 0)) fun v16 =>
  bindR (g1 (loadV tab s14 27 v16)) fun v17 =>
  bindR (mv v15) fun v18 =>
  bindR (g3 s14 (storeV tab s14 27 (T 4) v17)) fun s19 =>
  bindR (mv v18) fun v20 =>
  bindR (mv (intV .i64 0)) fun v21 =>
  k.ret (puts 33 T [(22, v0), (23, v1), (26, v7), (27, v8), (8, q9.1), (28, v11), (29, v13), (9, v15), (30, v16), (31, v17), (32, v18), (5, v20), (6, v21)]) s19) k.pan) := by kernel_rfl
theorem ec39 {ρ : Type} (k : K ρ) (a0 a1 : AV) (s : St) : denK tab W V 33 c39 k (argE [a0, a1]) s =
  bindR (boxA tab 27 a0 s.n) fun q0 =>
  bindR (allocA tab 27 (s.push q0.2).n) fun q1 =>
  bindR (mv (AV.base (.slice none 0 0))) fun v2 =>
  bindR (mv (intV .i64 0)) fun v3 =>
  bindR (g1 (loadV tab ((s.push q0.2).push q1.2) 27 q0.1)) fun v4 =>
  bindR (g2 ((s.push q0.2).push q1.2) (W 76 [v4] ((s.push q0.2).push q1.2))) fun q5 => retK q5 (fun v6 s7 =>
  bindR (mv v6) fun v8 =>
  bindR (mv v8) fun v9 =>
  bindR (g1 (Dt.binOp tab .eql 39 v9 (intV .i64 0) true)) fun v10 =>
  bindR (mv v10) fun v11 =>
  bindR (bif isBoolV v11 true then .ok a1 else .ok AV.undef) fun v12 =>
  bindR (bif isBoolV v11 true then Dt.binOp tab .lss 3 v12 (intV .i64 1) true else .ok AV.undef) fun v13 =>
  bindR (bif isBoolV v11 true then .ok v13 else .ok AV.undef) fun v14 =>
  bindR (bif isBoolV v14 false then .ok a1 else .ok AV.undef) fun v15 =>
  bindR (bif isBoolV v14 false then Dt.binOp tab .gtr 3 v15 (intV .i64 64) true else .ok AV.undef) fun v16 =>
  bindR (bif isBoolV v11 true then pickV v14 (boolV true) v16 else .ok AV.undef) fun v17 =>
  bindR (g1 (pickV v11 v17 (boolV false))) fun v18 =>
  condR v18
  (bindR (mv (intV .i64 2)) fun v19 =>
  denK tab W V 33 c39_1_1_1 k (puts 33 (argE [a0, a1]) [(2, q0.1), (4, q1.1), (5, v2), (6, v3), (10, v4), (11, v6), (7, v8), (12, v9), (13, v10), (14, v11), (15, v12), (16, v13), (17, v14), (18, v15), (19, v16), (20, v17), (21, v18), (7, v19)]) s7)
  (denK tab W V 33 c39_1_1_1 k (puts 33 (argE [a0, a1]) [(2, q0.1), (4, q1.1), (5, v2), (6, v3), (10, v4), (11, v6), (7, v8), (12, v9), (13, v10), (14, v11), (15, v12), (16, v13), (17, v14), (18, v15), (19, v16), (20, v17), (21, v18)]) s7)) k.pan := by kernel_rfl
theorem w39 {args : List AV} {s : St} {r : AEnd × St} (hl : args.length ≤ 33) (h : denK tab W V 33 c39 (kRet tab [.cell 4 27, .tmp 5, .tmp 6]) (argE args) s = .ok r) : W 39 args s = .ok r :=
  callW_of (fn := Tryz.f39) (by kernel_rfl) (by kernel_rfl) (by kernel_rfl) (by kernel_rfl) (by kernel_rfl) hl h
/- partywall/tenant.Check -/
noncomputable def c43 : Code := bodyC tab 43
noncomputable def c43_1 : Code := subC (bodyC tab 43) [1]
noncomputable def c43_1_1_1 : Code := subC (bodyC tab 43) [1, 1, 1]
noncomputable def c43_1_1_1_1 : Code := subC (bodyC tab 43) [1, 1, 1, 1]
noncomputable def c43_1_1_1_1_0_0_1_1_1 : Code := subC (bodyC tab 43) [1, 1, 1, 1, 0, 0, 1, 1, 1]
noncomputable def c43_1_1_1_1_1 : Code := subC (bodyC tab 43) [1, 1, 1, 1, 1]
theorem ec43_1 {ρ : Type} (k : K ρ) (T : Rg) (s : St) : denK tab W V 83 c43_1 k T s =
  bindR (g1 (loadV tab s 33 (T 3))) fun v0 =>
  bindR (g2 s (W 55 [v0] s)) fun q1 => retK q1 (fun v2 s3 =>
  bindR (mv v2) fun v4 =>
  bindR (mv v4) fun v5 =>
  bindR (g1 (Dt.binOp tab .eql 39 v5 (intV .i64 0) true)) fun v6 =>
  condR v6
  (bindR (g1 (loadV tab s3 36 (T 4))) fun v7 =>
  bindR (g2 s3 (W 41 [v7] s3)) fun q8 => retK q8 (fun v9 s10 =>
  bindR (mv v9) fun v11 =>
  denK tab W V 83 c43_1_1_1 k (puts 83 T [(8, v0), (9, v2), (7, v4), (10, v5), (11, v6), (12, v7), (13, v9), (7, v11)]) s10) k.pan)
  (denK tab W V 83 c43_1_1_1 k (puts 83 T [(8, v0), (9, v2), (7, v4), (10, v5), (11, v6)]) s3)) k.pan := by kernel_rfl
theorem ec43_1_1_1 {ρ : Type} (k : K ρ) (T : Rg) (s : St) : denK tab W V 83 c43_1_1_1 k T s =
  bindR (mv (T 7)) fun v0 =>
  bindR (g1 (Dt.binOp tab .eql 39 v0 (intV .i64 0) true)) fun v1 =>
  condR v1
  (bindR (g1 (fieldAddr tab 29 (T 5) 4)) fun v2 =>
  bindR (g1 (loadV tab s 27 v2)) fun v3 =>
  bindR (g2 s (W 76 [v3] s)) fun q4 => retK q4 (fun v5 s6 =>
  bindR (mv v5) fun v7 =>
  denK tab W V 83 c43_1_1_1_1 k (puts 83 T [(14, v0), (15, v1), (16, v2), (17, v3), (18, v5), (7, v7)]) s6) k.pan)
  (denK tab W V 83 c43_1_1_1_1 k (puts 83 T [(14, v0), (15, v1)]) s) := by kernel_rfl
theorem ec43_1_1_1_1 {ρ : Type} (k : K ρ) (T : Rg) (s : St) : denK tab W V 83 c43_1_1_1_1 k T s =
  bindR (mv (T 7)) fun v0 =>
  bindR (g1 (Dt.binOp tab .neq 39 v0 (intV .i64 0) true)) fun v1 =>
  bindR (mv v1) fun v2 =>
  condR v2
  (bindR (mv (T 7)) fun v3 =>
  bindR (mv v3) fun v4 =>
  k.ret (puts 83 T [(20, v0), (21, v1), (19, v2), (22, v3), (6, v4)]) s)
  (bindR (g1 (fieldAddr tab 29 (T 5) 4)) fun v5 =>
  bindR (g1 (fieldAddr tab 27 v5 0)) fun v6 =>
  bindR (g1 (loadV tab s 3 v6)) fun v7 =>
  bindR (g1 (fieldAddr tab 36 (T 4) 3)) fun v8 =>
  bindR (g1 (loadV tab s 3 v8)) fun v9 =>
  bindR (g1 (Dt.binOp tab .neq 3 v7 v9 false)) fun v10 =>
  bindR (mv v10) fun v11 =>
  denK tab W V 83 c43_1_1_1_1_0_0_1_1_1 (kblk 0 (kseq (denK tab W V 83 c43_1_1_1_1_1 k) k)) (puts 83 T [(20, v0), (21, v1), (19, v2), (24, v5), (25, v6), (26, v7), (27, v8), (28, v9), (29, v10), (23, v11)]) s) := by kernel_rfl
theorem ec43_1_1_1_1_0_0_1_1_1 {ρ : Type} (k : K ρ) (T : Rg) (s : St) : denK tab W V 83 c43_1_1_1_1_0_0_1_1_1 k T s =
  condR (T 23)
  (bindR (mv (intV .i64 3)) fun v0 =>
  k.ret (puts 83 T [(6, v0)]) s)
  (bindR (g1 (fieldAddr tab 29 (T 5) 0)) fun v1 =>
  bindR (g1 (loadV tab s 4 v1)) fun v2 =>
  bindR (g1 (Dt.unOp .not v2)) fun v3 =>
  bindR (mv v3) fun v4 =>
  bindR (bif isBoolV v4 true then fieldAddr tab 29 (T 5) 1 else .ok AV.undef) fun v5 =>
  bindR (bif isBoolV v4 true then loadV tab s 23 v5 else .ok AV.undef) fun v6 =>
  bindR (bif isBoolV v4 true then Dt.binOp tab .neq 23 v6 (intV .u64 0) true else .ok AV.undef) fun v7 =>
  bindR (bif isBoolV v4 true then .ok v7 else .ok AV.undef) fun v8 =>
  bindR (bif isBoolV v8 false then fieldAddr tab 29 (T 5) 2 else .ok AV.undef) fun v9 =>
  bindR (bif isBoolV v8 false then loadV tab s 3 v9 else .ok AV.undef) fun v10 =>
  bindR (bif isBoolV v8 false then Dt.binOp tab .neq 3 v10 (intV .i64 0) true else .ok AV.undef) fun v11 =>
  bindR (bif isBoolV v4 true then pickV v8 (boolV true) v11 else .ok AV.undef) fun v12 =>
  bindR (bif isBoolV v4 true then .ok v12 else .ok AV.undef) fun v13 =>
  bindR (bif isBoolV v13 false then fieldAddr tab 29 (T 5) 3 else .ok AV.undef) fun v14 =>
  bindR (bif isBoolV v13 false then loadV tab s 24 v14 else .ok AV.undef) fun v15 =>
  bindR (bif isBoolV v13 false then lenV tab 24 v15 else .ok AV.undef) fun v16 =>
  bindR (bif isBoolV v13 false then Dt.binOp tab .gtr 3 v16 (intV .i64 0) true else .ok AV.undef) fun v17 =>
  bindR (bif isBoolV v4 true then pickV v13 (boolV true) v17 else .ok AV.undef) fun v18 =>
  bindR (bif isBoolV v4 true then .ok v18 else .ok AV.undef) fun v19 =>
  bindR (bif isBoolV v19 false then fieldAddr tab 29 (T 5) 4 else .ok AV.undef) fun v20 =>
  bindR (bif isBoolV v19 false then fieldAddr tab 27 v20 1 else .ok AV.undef) fun v21 =>
  bindR (bif isBoolV v19 false then loadV tab s 25 v21 else .ok AV.undef) fun v22 =>
  bindR (bif isBoolV v19 false then lenV tab 25 v22 else .ok AV.undef) fun v23 =>
  bindR (bif isBoolV v19 false then Dt.binOp tab .gtr 3 v23 (intV .i64 0) true else .ok AV.undef) fun v24 =>
  bindR (bif isBoolV v4 true then pickV v19 (boolV true) v24 else .ok AV.undef) fun v25 =>
  bindR (bif isBoolV v4 true then .ok v25 else .ok AV.undef) fun v26 =>
  bindR (bif isBoolV v26 false then fieldAddr tab 29 (T 5) 4 else .ok AV.undef) fun v27 =>
  bindR (bif isBoolV v26 false then fieldAddr tab 27 v27 2 else .ok AV.undef) fun v28 =>
  bindR (bif isBoolV v26 false then loadV tab s 3 v28 else .ok AV.undef) fun v29 =>
  bindR (bif isBoolV v26 false then Dt.binOp tab .neq 3 v29 (intV .i64 0) true else .ok AV.undef) fun v30 =>
  bindR (bif isBoolV v4 true then pickV v26 (boolV true) v30 else .ok AV.undef) fun v31 =>
  bindR (g1 (pickV v4 v31 (boolV false))) fun v32 =>
  bindR (mv v32) fun v33 =>
  condR v33
  (bindR (mv (intV .i64 10)) fun v34 =>
  k.ret (puts 83 T [(31, v1), (32, v2), (33, v3), (34, v4), (35, v5), (36, v6), (37, v7), (38, v8), (39, v9), (40, v10), (41, v11), (42, v12), (43, v13), (44, v14), (45, v15), (46, v16), (47, v17), (48, v18), (49, v19), (50, v20), (51, v21), (52, v22), (53, v23), (54, v24), (55, v25), (56, v26), (57, v27), (58, v28), (59, v29), (60, v30), (61, v31), (62, v32), (30, v33), (6, v34)]) s)
  (bindR (g1 (fieldAddr tab 29 (T 5) 2)) fun v35 =>
  bindR (g1 (loadV tab s 3 v35)) fun v36 =>
  bindR (g1 (Dt.binOp tab .lss 3 v36 (intV .i64 0) true)) fun v37 =>
  bindR (mv v37) fun v38 =>
  bindR (bif isBoolV v38 false then fieldAddr tab 29 (T 5) 2 else .ok AV.undef) fun v39 =>
  bindR (bif isBoolV v38 false then loadV tab s 3 v39 else .ok AV.undef) fun v40 =>
  bindR (bif isBoolV v38 false then Dt.binOp tab .gtr 3 v40 (intV .i64 1099511627776) true else .ok AV.undef) fun v41 =>
  bindR (g1 (pickV v38 (boolV true) v41)) fun v42 =>
  bindR (mv v42) fun v43 =>
  condR v43
  (bindR (mv (intV .i64 2)) fun v44 =>
  k.ret (puts 83 T [(31, v1), (32, v2), (33, v3), (34, v4), (35, v5), (36, v6), (37, v7), (38, v8), (39, v9), (40, v10), (41, v11), (42, v12), (43, v13), (44, v14), (45, v15), (46, v16), (47, v17), (48, v18), (49, v19), (50, v20), (51, v21), (52, v22), (53, v23), (54, v24), (55, v25), (56, v26), (57, v27), (58, v28), (59, v29), (60, v30), (61, v31), (62, v32), (30, v33), (64, v35), (65, v36), (66, v37), (67, v38), (68, v39), (69, v40), (70, v41), (71, v42), (63, v43), (6, v44)]) s)
  (bindR (g1 (fieldAddr tab 29 (T 5) 3)) fun v45 =>
  bindR (g1 (loadV tab s 24 v45)) fun v46 =>
  bindR (g1 (lenV tab 24 v46)) fun v47 =>
  bindR (g1 (fieldAddr tab 36 (T 4) 1)) fun v48 =>
  bindR (g1 (loadV tab s 3 v48)) fun v49 =>
  bindR (g1 (Dt.binOp tab .gtr 3 v47 v49 false)) fun v50 =>
  bindR (mv v50) fun v51 =>
  condR v51
  (bindR (mv (intV .i64 6)) fun v52 =>
  k.ret (puts 83 T [(31, v1), (32, v2), (33, v3), (34, v4), (35, v5), (36, v6), (37, v7), (38, v8), (39, v9), (40, v10), (41, v11), (42, v12), (43, v13), (44, v14), (45, v15), (46, v16), (47, v17), (48, v18), (49, v19), (50, v20), (51, v21), (52, v22), (53, v23), (54, v24), (55, v25), (56, v26), (57, v27), (58, v28), (59, v29), (60, v30), (61, v31), (62, v32), (30, v33), (64, v35), (65, v36), (66, v37), (67, v38), (68, v39), (69, v40), (70, v41), (71, v42), (63, v43), (73, v45), (74, v46), (75, v47), (76, v48), (77, v49), (78, v50), (72, v51), (6, v52)]) s)
  (k.nxt (puts 83 T [(31, v1), (32, v2), (33, v3), (34, v4), (35, v5), (36, v6), (37, v7), (38, v8), (39, v9), (40, v10), (41, v11), (42, v12), (43, v13), (44, v14), (45, v15), (46, v16), (47, v17), (48, v18), (49, v19), (50, v20), (51, v21), (52, v22), (53, v23), (54, v24), (55, v25), (56, v26), (57, v27), (58, v28), (59, v29), (60, v30), (61, v31), (62, v32), (30, v33), (64, v35), (65, v36), (66, v37), (67, v38), (68, v39), (69, v40), (70, v41), (71, v42), (63, v43), (73, v45), (74, v46), (75, v47), (76, v48), (77, v49), (78, v50), (72, v51)]) s)))) := by kernel_rfl
theorem ec43_1_1_1_1_1 {ρ : Type} (k : K ρ) (T : Rg) (s : St) : denK tab W V 83 c43_1_1_1_1_1 k T s =
  bindR (g1 (loadV tab s 33 (T 3))) fun v0 =>
  bindR (g1 (loadV tab s 36 (T 4))) fun v1 =>
  bindR (g1 (loadV tab s 29 (T 5))) fun v2 =>
  bindR (g2 s (W 88 [v0, v1, v2] s)) fun q3 => retK q3 (fun v4 s5 =>
  bindR (mv v4) fun v6 =>
  k.ret (puts 83 T [(79, v0), (80, v1), (81, v2), (82, v4), (6, v6)]) s5) k.pan := by kernel_rfl
theorem ec43 {ρ : Type} (k : K ρ) (a0 a1 a2 : AV) (s : St) : denK tab W V 83 c43 k (argE [a0, a1, a2]) s =
  bindR (boxA tab 33 a0 s.n) fun q0 =>
  bindR (boxA tab 36 a1 (s.push q0.2).n) fun q1 =>
  bindR (boxA tab 29 a2 ((s.push q0.2).push q1.2).n) fun q2 =>
  bindR (mv (intV .i64 0)) fun v3 =>
  denK tab W V 83 c43_1 k (puts 83 (argE [a0, a1, a2]) [(3, q0.1), (4, q1.1), (5, q2.1), (6, v3)]) (((s.push q0.2).push q1.2).push q2.2) := by kernel_rfl
theorem w43 {args : List AV} {s : St} {r : AEnd × St} (hl : args.length ≤ 83) (h : denK tab W V 83 c43 (kRet tab [.tmp 6]) (argE args) s = .ok r) : W 43 args s = .ok r :=
  callW_of (fn := Tryz.f43) (by kernel_rfl) (by kernel_rfl) (by kernel_rfl) (by kernel_rfl) (by kernel_rfl) hl h
theorem r43 (T : Rg) (s : St) : (kRet tab [.tmp 6]).ret T s = .ok (.ret (T 6), s) := eqBy rfl
/- partywall/queue.Check -/
noncomputable def c76 : Code := bodyC tab 76
theorem ec76 {ρ : Type} (k : K ρ) (a0 : AV) (s : St) : denK tab W V 32 c76 k (argE [a0]) s =
  bindR (boxA tab 27 a0 s.n) fun q0 =>
  bindR (mv (intV .i64 0)) fun v1 =>
  bindR (g1 (fieldAddr tab 27 q0.1 0)) fun v2 =>
  bindR (g1 (loadV tab (s.push q0.2) 3 v2)) fun v3 =>
  bindR (g1 (Dt.binOp tab .lss 3 v3 (intV .i64 0) true)) fun v4 =>
  bindR (mv v4) fun v5 =>
  bindR (bif isBoolV v5 false then fieldAddr tab 27 q0.1 0 else .ok AV.undef) fun v6 =>
  bindR (bif isBoolV v5 false then loadV tab (s.push q0.2) 3 v6 else .ok AV.undef) fun v7 =>
  bindR (bif isBoolV v5 false then Dt.binOp tab .gtr 3 v7 (intV .i64 64) true else .ok AV.undef) fun v8 =>
  bindR (g1 (pickV v5 (boolV true) v8)) fun v9 =>
  bindR (mv v9) fun v10 =>
  bindR (bif isBoolV v10 false then fieldAddr tab 27 q0.1 2 else .ok AV.undef) fun v11 =>
  bindR (bif isBoolV v10 false then loadV tab (s.push q0.2) 3 v11 else .ok AV.undef) fun v12 =>
  bindR (bif isBoolV v10 false then Dt.binOp tab .lss 3 v12 (intV .i64 0) true else .ok AV.undef) fun v13 =>
  bindR (g1 (pickV v10 (boolV true) v13)) fun v14 =>
  bindR (mv v14) fun v15 =>
  bindR (bif isBoolV v15 false then fieldAddr tab 27 q0.1 2 else .ok AV.undef) fun v16 =>
  bindR (bif isBoolV v15 false then loadV tab (s.push q0.2) 3 v16 else .ok AV.undef) fun v17 =>
  bindR (bif isBoolV v15 false then Dt.binOp tab .gtr 3 v17 (intV .i64 1099511627776) true else .ok AV.undef) fun v18 =>
  bindR (g1 (pickV v15 (boolV true) v18)) fun v19 =>
  bindR (mv v19) fun v20 =>
  condR v20
  (bindR (mv (intV .i64 2)) fun v21 =>
  k.ret (puts 32 (argE [a0]) [(1, q0.1), (2, v1), (4, v2), (5, v3), (6, v4), (7, v5), (8, v6), (9, v7), (10, v8), (11, v9), (12, v10), (13, v11), (14, v12), (15, v13), (16, v14), (17, v15), (18, v16), (19, v17), (20, v18), (21, v19), (3, v20), (2, v21)]) (s.push q0.2))
  (bindR (g1 (fieldAddr tab 27 q0.1 1)) fun v22 =>
  bindR (g1 (loadV tab (s.push q0.2) 25 v22)) fun v23 =>
  bindR (g1 (lenV tab 25 v23)) fun v24 =>
  bindR (g1 (fieldAddr tab 27 q0.1 0)) fun v25 =>
  bindR (g1 (loadV tab (s.push q0.2) 3 v25)) fun v26 =>
  bindR (g1 (Dt.binOp tab .gtr 3 v24 v26 false)) fun v27 =>
  bindR (mv v27) fun v28 =>
  condR v28
  (bindR (mv (intV .i64 6)) fun v29 =>
  k.ret (puts 32 (argE [a0]) [(1, q0.1), (2, v1), (4, v2), (5, v3), (6, v4), (7, v5), (8, v6), (9, v7), (10, v8), (11, v9), (12, v10), (13, v11), (14, v12), (15, v13), (16, v14), (17, v15), (18, v16), (19, v17), (20, v18), (21, v19), (3, v20), (23, v22), (24, v23), (25, v24), (26, v25), (27, v26), (28, v27), (22, v28), (2, v29)]) (s.push q0.2))
  (bindR (g1 (fieldAddr tab 27 q0.1 1)) fun v30 =>
  bindR (g1 (loadV tab (s.push q0.2) 25 v30)) fun v31 =>
  bindR (g2 (s.push q0.2) (W 77 [v31] (s.push q0.2))) fun q32 => retK q32 (fun v33 s34 =>
  bindR (mv v33) fun v35 =>
  k.ret (puts 32 (argE [a0]) [(1, q0.1), (2, v1), (4, v2), (5, v3), (6, v4), (7, v5), (8, v6), (9, v7), (10, v8), (11, v9), (12, v10), (13, v11), (14, v12), (15, v13), (16, v14), (17, v15), (18, v16), (19, v17), (20, v18), (21, v19), (3, v20), (23, v22), (24, v23), (25, v24), (26, v25), (27, v26), (28, v27), (22, v28), (29, v30), (30, v31), (31, v33), (2, v35)]) s34) k.pan)) := by kernel_rfl
theorem w76 {args : List AV} {s : St} {r : AEnd × St} (hl : args.length ≤ 32) (h : denK tab W V 32 c76 (kRet tab [.tmp 2]) (argE args) s = .ok r) : W 76 args s = .ok r :=
  callW_of (fn := Tryz.f76) (by kernel_rfl) (by kernel_rfl) (by kernel_rfl) (by kernel_rfl) (by kernel_rfl) hl h
theorem r76 (T : Rg) (s : St) : (kRet tab [.tmp 2]).ret T s = .ok (.ret (T 2), s) := eqBy rfl
/- partywall/queue.right -/
noncomputable def c77 : Code := bodyC tab 77
noncomputable def c77_1_0_1_0_0 : Code := subC (bodyC tab 77) [1, 0, 1, 0, 0]
noncomputable def c77_1_1 : Code := subC (bodyC tab 77) [1, 1]
theorem ec77_1_0_1_0_0 {ρ : Type} (k : K ρ) (T : Rg) (s : St) : denK tab W V 18 c77_1_0_1_0_0 k T s =
  bindR (g1 (Dt.binOp tab .lss 3 (T 8) (T 7) false)) fun v0 =>
  condR v0
  (bindR (g1 (indexAddr tab 25 (T 6) (T 8))) fun v1 =>
  bindR (g1 (loadV tab s 48 v1)) fun v2 =>
  bindR (allocA tab 48 s.n) fun q3 =>
  bindR (g3 (s.push q3.2) (storeV tab (s.push q3.2) 48 q3.1 v2)) fun s4 =>
  bindR (g1 (loadV tab s4 48 q3.1)) fun v5 =>
  bindR (g2 s4 (W 32 [v5] s4)) fun q6 => retK q6 (fun v7 s8 =>
  bindR (mv v7) fun v9 =>
  bindR (mv v9) fun v10 =>
  bindR (g1 (Dt.binOp tab .neq 39 v10 (intV .i64 0) true)) fun v11 =>
  condR v11
  (bindR (mv v9) fun v12 =>
  bindR (mv v12) fun v13 =>
  k.ret (puts 18 T [(9, v0), (10, v1), (11, v2), (4, q3.1), (12, v5), (13, v7), (5, v9), (14, v10), (15, v11), (16, v12), (2, v13)]) s8)
  (bindR (g1 (Dt.binOp tab .add 3 (T 8) (intV .i64 1) true)) fun v14 =>
  bindR (mv v14) fun v15 =>
  k.nxt (puts 18 T [(9, v0), (10, v1), (11, v2), (4, q3.1), (12, v5), (13, v7), (5, v9), (14, v10), (15, v11), (17, v14), (8, v15)]) s8)) k.pan)
  (k.exit 0 (puts 18 T [(9, v0)]) s) := by kernel_rfl
theorem ec77_1_1 {ρ : Type} (k : K ρ) (T : Rg) (s : St) : denK tab W V 18 c77_1_1 k T s =
  bindR (mv (intV .i64 0)) fun v0 =>
  k.ret (puts 18 T [(2, v0)]) s := by kernel_rfl
theorem ec77 {ρ : Type} (k : K ρ) (a0 : AV) (s : St) : denK tab W V 18 c77 k (argE [a0]) s =
  bindR (mv (intV .i64 0)) fun v0 =>
  bindR (mv a0) fun v1 =>
  bindR (g1 (lenV tab 25 v1)) fun v2 =>
  bindR (mv (intV .i64 0)) fun v3 =>
  bindR (loopLim (dd tab W V 18 c77_1_0_1_0_0) (puts 18 (argE [a0]) [(2, v0), (6, v1), (7, v2), (8, v3)]) s) (K.app (kblk 0 (kseq (denK tab W V 18 c77_1_1 k) k))) := by kernel_rfl
theorem w77 {args : List AV} {s : St} {r : AEnd × St} (hl : args.length ≤ 18) (h : denK tab W V 18 c77 (kRet tab [.tmp 2]) (argE args) s = .ok r) : W 77 args s = .ok r :=
  callW_of (fn := Tryz.f77) (by kernel_rfl) (by kernel_rfl) (by kernel_rfl) (by kernel_rfl) (by kernel_rfl) hl h
theorem r77 (T : Rg) (s : St) : (kRet tab [.tmp 2]).ret T s = .ok (.ret (T 2), s) := eqBy rfl
/- (*partywall/queue.queue).put -/
noncomputable def c78 : Code := bodyC tab 78
theorem ec78 {ρ : Type} (k : K ρ) (a0 a1 : AV) (s : St) : denK tab W V 34 c78 k (argE [a0, a1]) s =
  bindR (boxA tab 48 a1 s.n) fun q0 =>
  bindR (mv (boolV false)) fun v1 =>
  bindR (mv a0) fun v2 =>
  bindR (g1 (nilCheckV v2)) fun v3 =>
  bindR (g1 (loadV tab (s.push q0.2) 202 v3)) fun v4 =>
  bindR (g2 (s.push q0.2) (W 142 [v4] (s.push q0.2))) fun q5 => retK q5 (fun v6 s7 =>
  bindR (g1 (Dt.binOp tab .eql 3 v6 (intV .i64 0) true)) fun v8 =>
  condR v8
  (bindR (mv a0) fun v9 =>
  bindR (g2 s7 (W 143 [v9] s7)) fun q10 => retK q10 (fun v11 s12 =>
  bindR (mv (boolV false)) fun v13 =>
  k.ret (puts 34 (argE [a0, a1]) [(3, q0.1), (4, v1), (6, v2), (7, v3), (8, v4), (9, v6), (10, v8), (11, v9), (12, v11), (4, v13)]) s12) k.pan)
  (bindR (mv a0) fun v14 =>
  bindR (g1 (nilCheckV v14)) fun v15 =>
  bindR (g1 (fieldAddr tab 202 v15 0)) fun v16 =>
  bindR (g1 (fieldAddr tab 27 v16 1)) fun v17 =>
  bindR (g1 (loadV tab s7 25 v17)) fun v18 =>
  bindR (g1 (lenV tab 25 v18)) fun v19 =>
  bindR (mv v19) fun v20 =>
  bindR (.ok a0) fun v21 =>
  bindR (nilCheckV v21) fun v22 =>
  bindR (fieldAddr tab 202 v22 0) fun v23 =>
  bindR (fieldAddr tab 27 v23 1) fun v24 =>
  bindR (loadV tab s7 25 v24) fun v25 => bif (sameR (loadV tab s7 25 v24) v25 && true) then
  bindR (.ok v20) fun v26 =>
  bindR (.ok v20) fun v27 =>
  bindR (sliceV tab 25 v25 none (some v26) (some v27)) fun v28 =>
  bindR (loadV tab s7 48 q0.1) fun v29 => bif (sameR (loadV tab s7 48 q0.1) v29 && true) then
  bindR (buildSliceA tab 25 1 [(0, v29)] s7.n) fun q30 => bif bndO (s7.n + 1) q30.2 then
  bif ([v28, q30.1].all fun x => bndA (s7.push q30.2).n x) then bindR (g4 (s7.push q30.2) (appendV tab (s7.push q30.2) 25 25 v28 q30.1)) fun q31 =>
  bif Nat.ble (s7.push q30.2).n q31.2.n then bindR (.ok a0) fun v32 =>
  bindR (nilCheckV v32) fun v33 =>
  bindR (fieldAddr tab 202 v33 0) fun v34 =>
  bindR (fieldAddr tab 27 v34 1) fun v35 =>
  bif ([v35, q31.1].all fun x => bndA q31.2.n x) then bindR (g3 q31.2 (storeV tab q31.2 25 v35 q31.1)) fun s36 =>
  bif Nat.ble q31.2.n s36.n then bindR (mv (boolV true)) fun v37 =>
  k.ret (puts 34 (argE [a0, a1]) [(3, q0.1), (4, v1), (6, v2), (7, v3), (8, v4), (9, v6), (10, v8), (13, v14), (14, v15), (15, v16), (16, v17), (17, v18), (18, v19), (5, v20), (20, v21), (21, v22), (22, v23), (23, v24), (24, v25), (25, v26), (26, v27), (27, v28), (28, v29), (29, q30.1), (30, q31.1), (19, v32), (31, v33), (32, v34), (33, v35), (4, v37)]) s36 else .error "draw n" else .error "draw ids" else .error "draw n" else .error "draw ids" else .error "draw object" else .error "unstable read" else .error "unstable read")) k.pan := by kernel_rfl
theorem w78 {args : List AV} {s : St} {r : AEnd × St} (hl : args.length ≤ 34) (h : denK tab W V 34 c78 (kRet tab [.tmp 4]) (argE args) s = .ok r) : W 78 args s = .ok r :=
  callW_of (fn := Tryz.f78) (by kernel_rfl) (by kernel_rfl) (by kernel_rfl) (by kernel_rfl) (by kernel_rfl) hl h
theorem r78 (T : Rg) (s : St) : (kRet tab [.tmp 4]).ret T s = .ok (.ret (T 4), s) := eqBy rfl
/- (*partywall/queue.queue).poll -/
noncomputable def c83 : Code := bodyC tab 83
noncomputable def c83_1_1 : Code := subC (bodyC tab 83) [1, 1]
noncomputable def c83_1_1_1 : Code := subC (bodyC tab 83) [1, 1, 1]
noncomputable def c83_1_1_1_1_1 : Code := subC (bodyC tab 83) [1, 1, 1, 1, 1]
theorem ec83_1_1 {ρ : Type} (k : K ρ) (T : Rg) (s : St) : denK tab W V 67 c83_1_1 k T s =
  bindR (mv (T 0)) fun v0 =>
  bindR (g1 (nilCheckV v0)) fun v1 =>
  bindR (g1 (fieldAddr tab 202 v1 0)) fun v2 =>
  bindR (g1 (fieldAddr tab 27 v2 1)) fun v3 =>
  bindR (g1 (loadV tab s 25 v3)) fun v4 =>
  bindR (mv (T 5)) fun v5 =>
  bindR (mv (T 5)) fun v6 =>
  bindR (g1 (sliceV tab 25 v4 none (some v5) (some v6))) fun v7 =>
  bindR (g2 s (W 147 [v7] s)) fun q8 => retK q8 (fun v9 s10 =>
  bindR (mv v9) fun v11 =>
  denK tab W V 67 c83_1_1_1 k (puts 67 T [(17, v0), (18, v1), (19, v2), (20, v3), (21, v4), (22, v5), (23, v6), (24, v7), (25, v9), (6, v11)]) s10) k.pan := by kernel_rfl
theorem ec83_1_1_1 {ρ : Type} (k : K ρ) (T : Rg) (s : St) : denK tab W V 67 c83_1_1_1 k T s =
  bindR (mv (T 0)) fun v0 =>
  bindR (mv (T 0)) fun v1 =>
  bindR (g1 (nilCheckV v1)) fun v2 =>
  bindR (g1 (fieldAddr tab 202 v2 0)) fun v3 =>
  bindR (g1 (fieldAddr tab 27 v3 1)) fun v4 =>
  bindR (g1 (loadV tab s 25 v4)) fun v5 =>
  bindR (mv (T 5)) fun v6 =>
  bindR (g1 (sliceV tab 25 v5 (some v6) none none)) fun v7 =>
  bindR (g2 s (W 147 [v7] s)) fun q8 => retK q8 (fun v9 s10 =>
  bindR (g1 (nilCheckV v0)) fun v11 =>
  bindR (g1 (fieldAddr tab 202 v11 0)) fun v12 =>
  bindR (g1 (fieldAddr tab 27 v12 1)) fun v13 =>
  bindR (g3 s10 (storeV tab s10 25 v13 v9)) fun s14 =>
  bindR (mv (T 5)) fun v15 =>
  bindR (mv (T 1)) fun v16 =>
  bindR (g1 (Dt.binOp tab .lss 3 v15 v16 false)) fun v17 =>
  bindR (mv v17) fun v18 =>
  bindR (bif isBoolV v18 true then .ok (T 0) else .ok AV.undef) fun v19 =>
  bindR (bif isBoolV v18 true then nilCheckV v19 else .ok AV.undef) fun v20 =>
  bindR (bif isBoolV v18 true then fieldAddr tab 202 v20 0 else .ok AV.undef) fun v21 =>
  bindR (bif isBoolV v18 true then fieldAddr tab 27 v21 2 else .ok AV.undef) fun v22 =>
  bindR (bif isBoolV v18 true then loadV tab s14 3 v22 else .ok AV.undef) fun v23 =>
  bindR (bif isBoolV v18 true then Dt.binOp tab .gtr 3 v23 (intV .i64 0) true else .ok AV.undef) fun v24 =>
  bindR (g1 (pickV v18 v24 (boolV false))) fun v25 =>
  condR v25
  (bindR (mv (T 0)) fun v26 =>
  bindR (g1 (nilCheckV v26)) fun v27 =>
  bindR (g1 (fieldAddr tab 202 v27 0)) fun v28 =>
  bindR (g1 (fieldAddr tab 27 v28 2)) fun v29 =>
  bindR (g1 (loadV tab s14 3 v29)) fun v30 =>
  bindR (g2 s14 (W 148 [(intV .i64 0), (intV .i64 19), v30] s14)) fun q31 => retK q31 (fun v32 s33 =>
  bindR (mv v32) fun v34 =>
  bindR (g1 (extractV v34 0)) fun v35 =>
  bindR (g1 (extractV v34 1)) fun v36 =>
  bindR (allocA tab 48 s33.n) fun q37 =>
  bindR (g3 (s33.push q37.2) (storeV tab (s33.push q37.2) 48 q37.1 v35)) fun s38 =>
  bindR (mv v36) fun v39 =>
  bindR (mv (T 0)) fun v40 =>
  bindR (mv (T 6)) fun v41 =>
  bindR (g1 (loadV tab s38 48 q37.1)) fun v42 =>
  bindR (buildSliceA tab 25 1 [(0, v42)] s38.n) fun q43 =>
  bindR (g4 (s38.push q43.2) (appendV tab (s38.push q43.2) 25 25 v41 q43.1)) fun q44 =>
  bindR (mv q44.1) fun v45 =>
  bindR (g1 (nilCheckV v40)) fun v46 =>
  bindR (g1 (fieldAddr tab 202 v46 0)) fun v47 =>
  bindR (g1 (fieldAddr tab 27 v47 2)) fun v48 =>
  bindR (g3 q44.2 (storeV tab q44.2 3 v48 (intV .i64 0))) fun s49 =>
  denK tab W V 67 c83_1_1_1_1_1 k (puts 67 T [(26, v0), (27, v1), (28, v2), (29, v3), (30, v4), (31, v5), (32, v6), (33, v7), (34, v9), (35, v11), (36, v12), (37, v13), (38, v15), (39, v16), (40, v17), (41, v18), (42, v19), (43, v20), (44, v21), (45, v22), (46, v23), (47, v24), (48, v25), (50, v26), (51, v27), (52, v28), (53, v29), (54, v30), (55, v32), (49, v34), (56, v35), (57, v36), (7, q37.1), (8, v39), (58, v40), (59, v41), (60, v42), (61, q43.1), (62, q44.1), (6, v45), (63, v46), (64, v47), (65, v48)]) s49) k.pan)
  (denK tab W V 67 c83_1_1_1_1_1 k (puts 67 T [(26, v0), (27, v1), (28, v2), (29, v3), (30, v4), (31, v5), (32, v6), (33, v7), (34, v9), (35, v11), (36, v12), (37, v13), (38, v15), (39, v16), (40, v17), (41, v18), (42, v19), (43, v20), (44, v21), (45, v22), (46, v23), (47, v24), (48, v25)]) s14)) k.pan := by kernel_rfl
theorem ec83_1_1_1_1_1 {ρ : Type} (k : K ρ) (T : Rg) (s : St) : denK tab W V 67 c83_1_1_1_1_1 k T s =
  bindR (mv (T 6)) fun v0 =>
  bindR (mv v0) fun v1 =>
  k.ret (puts 67 T [(66, v0), (4, v1)]) s := by kernel_rfl
theorem ec83 {ρ : Type} (k : K ρ) (a0 a1 : AV) (s : St) : denK tab W V 67 c83 k (argE [a0, a1]) s =
  bindR (mv (AV.base (.slice none 0 0))) fun v0 =>
  bindR (mv a1) fun v1 =>
  bindR (mv a0) fun v2 =>
  bindR (g1 (nilCheckV v2)) fun v3 =>
  bindR (g1 (fieldAddr tab 202 v3 0)) fun v4 =>
  bindR (g1 (fieldAddr tab 27 v4 1)) fun v5 =>
  bindR (g1 (loadV tab s 25 v5)) fun v6 =>
  bindR (g1 (lenV tab 25 v6)) fun v7 =>
  bindR (g1 (minMax false v1 [v7])) fun v8 =>
  bindR (mv v8) fun v9 =>
  denK tab W V 67 c83_1_1 k (puts 67 (argE [a0, a1]) [(4, v0), (9, v1), (10, v2), (11, v3), (12, v4), (13, v5), (14, v6), (15, v7), (16, v8), (5, v9)]) s := by kernel_rfl
theorem w83 {args : List AV} {s : St} {r : AEnd × St} (hl : args.length ≤ 67) (h : denK tab W V 67 c83 (kRet tab [.tmp 4]) (argE args) s = .ok r) : W 83 args s = .ok r :=
  callW_of (fn := Tryz.f83) (by kernel_rfl) (by kernel_rfl) (by kernel_rfl) (by kernel_rfl) (by kernel_rfl) hl h
theorem r83 (T : Rg) (s : St) : (kRet tab [.tmp 4]).ret T s = .ok (.ret (T 4), s) := eqBy rfl
/- partywall/tenant.queries -/
noncomputable def c88 : Code := bodyC tab 88
noncomputable def c88_1 : Code := subC (bodyC tab 88) [1]
noncomputable def c88_1_1_0_1 : Code := subC (bodyC tab 88) [1, 1, 0, 1]
noncomputable def c88_1_1_1 : Code := subC (bodyC tab 88) [1, 1, 1]
noncomputable def c88_1_1_0_1_0_0 : Code := subC (bodyC tab 88) [1, 1, 0, 1, 0, 0]
noncomputable def c88_1_1_0_1_0_0_1_1_0_0_1_1_1_1_1 : Code := subC (bodyC tab 88) [1, 1, 0, 1, 0, 0, 1, 1, 0, 0, 1, 1, 1, 1, 1]
noncomputable def c88_1_1_0_1_0_0_1_1_1 : Code := subC (bodyC tab 88) [1, 1, 0, 1, 0, 0, 1, 1, 1]
theorem ec88_1 {ρ : Type} (k : K ρ) (T : Rg) (s : St) : denK tab W V 51 c88_1 k T s =
  bindR (.ok (AV.mapv s.n, AO.map [] 0)) fun q0 =>
  bindR (mv q0.1) fun v1 =>
  bindR (g1 (fieldAddr tab 29 (T 5) 3)) fun v2 =>
  bindR (g1 (loadV tab (s.push q0.2) 24 v2)) fun v3 =>
  bindR (g1 (lenV tab 24 v3)) fun v4 =>
  bindR (mv (intV .i64 0)) fun v5 =>
  denK tab W V 51 c88_1_1_0_1 (kseq (denK tab W V 51 c88_1_1_1 k) k) (puts 51 T [(11, q0.1), (7, v1), (12, v2), (13, v3), (14, v4), (15, v5)]) (s.push q0.2) := by kernel_rfl
theorem ec88_1_1_0_1 {ρ : Type} (k : K ρ) (T : Rg) (s : St) : denK tab W V 51 c88_1_1_0_1 k T s =
  bindR (loopLim (dd tab W V 51 c88_1_1_0_1_0_0) T s) (K.app (kblk 0 k)) := by kernel_rfl
theorem ec88_1_1_1 {ρ : Type} (k : K ρ) (T : Rg) (s : St) : denK tab W V 51 c88_1_1_1 k T s =
  bindR (mv (intV .i64 0)) fun v0 =>
  k.ret (puts 51 T [(6, v0)]) s := by kernel_rfl
theorem ec88_1_1_0_1_0_0 {ρ : Type} (k : K ρ) (T : Rg) (s : St) : denK tab W V 51 c88_1_1_0_1_0_0 k T s =
  bindR (g1 (Dt.binOp tab .lss 3 (T 15) (T 14) false)) fun v0 =>
  condR v0
  (bindR (g1 (indexAddr tab 24 (T 13) (T 15))) fun v1 =>
  bindR (g1 (loadV tab s 71 v1)) fun v2 =>
  bindR (allocA tab 71 s.n) fun q3 =>
  bindR (g3 (s.push q3.2) (storeV tab (s.push q3.2) 71 q3.1 v2)) fun s4 =>
  bindR (g1 (fieldAddr tab 71 q3.1 0)) fun v5 =>
  bindR (g1 (loadV tab s4 3 v5)) fun v6 =>
  bindR (g1 (Dt.binOp tab .lss 3 v6 (intV .i64 1) true)) fun v7 =>
  bindR (mv v7) fun v8 =>
  bindR (bif isBoolV v8 false then fieldAddr tab 71 q3.1 0 else .ok AV.undef) fun v9 =>
  bindR (bif isBoolV v8 false then loadV tab s4 3 v9 else .ok AV.undef) fun v10 =>
  bindR (bif isBoolV v8 false then fieldAddr tab 29 (T 5) 2 else .ok AV.undef) fun v11 =>
  bindR (bif isBoolV v8 false then loadV tab s4 3 v11 else .ok AV.undef) fun v12 =>
  bindR (bif isBoolV v8 false then Dt.binOp tab .gtr 3 v10 v12 false else .ok AV.undef) fun v13 =>
  bindR (g1 (pickV v8 (boolV true) v13)) fun v14 =>
  bindR (mv v14) fun v15 =>
  bindR (bif isBoolV v15 false then .ok (T 7) else .ok AV.undef) fun v16 =>
  bindR (bif isBoolV v15 false then fieldAddr tab 71 q3.1 0 else .ok AV.undef) fun v17 =>
  bindR (bif isBoolV v15 false then loadV tab s4 3 v17 else .ok AV.undef) fun v18 =>
  bindR (bif isBoolV v15 false then lookupV tab s4 268 v16 v18 false else .ok AV.undef) fun v19 =>
  bindR (g1 (pickV v15 (boolV true) v19)) fun v20 =>
  condR v20
  (bindR (mv (intV .i64 9)) fun v21 =>
  k.ret (puts 51 T [(16, v0), (17, v1), (18, v2), (9, q3.1), (19, v5), (20, v6), (21, v7), (22, v8), (23, v9), (24, v10), (25, v11), (26, v12), (27, v13), (28, v14), (29, v15), (30, v16), (31, v17), (32, v18), (33, v19), (34, v20), (6, v21)]) s4)
  (bindR (mv (T 7)) fun v22 =>
  bindR (g1 (fieldAddr tab 71 q3.1 0)) fun v23 =>
  bindR (g1 (loadV tab s4 3 v23)) fun v24 =>
  bindR (mapUpdQ tab s4 268 v22 v24 (boolV true)) fun q25 => nextK W V 51 (puts 51 T [(16, v0), (17, v1), (18, v2), (9, q3.1), (19, v5), (20, v6), (21, v7), (22, v8), (23, v9), (24, v10), (25, v11), (26, v12), (27, v13), (28, v14), (29, v15), (30, v16), (31, v17), (32, v18), (33, v19), (34, v20), (35, v22), (36, v23), (37, v24)]) none (fun T s26 =>
  bindR (g1 (loadV tab s26 33 (T 3))) fun v27 =>
  bindR (g1 (loadV tab s26 71 (T 9))) fun v28 =>
  bindR (g2 s26 (W 30 [v27, v28] s26)) fun q29 => retK q29 (fun v30 s31 =>
  bindR (mv v30) fun v32 =>
  bindR (mv v32) fun v33 =>
  bindR (g1 (Dt.binOp tab .eql 39 v33 (intV .i64 0) true)) fun v34 =>
  condR v34
  (bindR (g1 (loadV tab s31 36 (T 4))) fun v35 =>
  bindR (g1 (loadV tab s31 29 (T 5))) fun v36 =>
  bindR (g1 (loadV tab s31 71 (T 9))) fun v37 =>
  bindR (g2 s31 (W 31 [v35, v36, v37] s31)) fun q38 => retK q38 (fun v39 s40 =>
  bindR (mv v39) fun v41 =>
  denK tab W V 51 c88_1_1_0_1_0_0_1_1_0_0_1_1_1_1_1 (kblk 1 (kseq (denK tab W V 51 c88_1_1_0_1_0_0_1_1_1 k) k)) (puts 51 T [(38, v27), (39, v28), (40, v30), (10, v32), (41, v33), (42, v34), (43, v35), (44, v36), (45, v37), (46, v39), (10, v41)]) s40) k.pan)
  (denK tab W V 51 c88_1_1_0_1_0_0_1_1_0_0_1_1_1_1_1 (kblk 1 (kseq (denK tab W V 51 c88_1_1_0_1_0_0_1_1_1 k) k)) (puts 51 T [(38, v27), (39, v28), (40, v30), (10, v32), (41, v33), (42, v34)]) s31)) k.pan) k.pan q25.1 q25.2))
  (k.exit 0 (puts 51 T [(16, v0)]) s) := by kernel_rfl
theorem ec88_1_1_0_1_0_0_1_1_0_0_1_1_1_1_1 {ρ : Type} (k : K ρ) (T : Rg) (s : St) : denK tab W V 51 c88_1_1_0_1_0_0_1_1_0_0_1_1_1_1_1 k T s =
  bindR (mv (T 10)) fun v0 =>
  bindR (g1 (Dt.binOp tab .neq 39 v0 (intV .i64 0) true)) fun v1 =>
  condR v1
  (bindR (mv (T 10)) fun v2 =>
  bindR (mv v2) fun v3 =>
  k.ret (puts 51 T [(47, v0), (48, v1), (49, v2), (6, v3)]) s)
  (k.nxt (puts 51 T [(47, v0), (48, v1)]) s) := by kernel_rfl
theorem ec88_1_1_0_1_0_0_1_1_1 {ρ : Type} (k : K ρ) (T : Rg) (s : St) : denK tab W V 51 c88_1_1_0_1_0_0_1_1_1 k T s =
  bindR (g1 (Dt.binOp tab .add 3 (T 15) (intV .i64 1) true)) fun v0 =>
  bindR (mv v0) fun v1 =>
  k.nxt (puts 51 T [(50, v0), (15, v1)]) s := by kernel_rfl
theorem ec88 {ρ : Type} (k : K ρ) (a0 a1 a2 : AV) (s : St) : denK tab W V 51 c88 k (argE [a0, a1, a2]) s =
  bindR (boxA tab 33 a0 s.n) fun q0 =>
  bindR (boxA tab 36 a1 (s.push q0.2).n) fun q1 =>
  bindR (boxA tab 29 a2 ((s.push q0.2).push q1.2).n) fun q2 =>
  bindR (mv (intV .i64 0)) fun v3 =>
  denK tab W V 51 c88_1 k (puts 51 (argE [a0, a1, a2]) [(3, q0.1), (4, q1.1), (5, q2.1), (6, v3)]) (((s.push q0.2).push q1.2).push q2.2) := by kernel_rfl
theorem w88 {args : List AV} {s : St} {r : AEnd × St} (hl : args.length ≤ 51) (h : denK tab W V 51 c88 (kRet tab [.tmp 6]) (argE args) s = .ok r) : W 88 args s = .ok r :=
  callW_of (fn := Tryz.f88) (by kernel_rfl) (by kernel_rfl) (by kernel_rfl) (by kernel_rfl) (by kernel_rfl) hl h
theorem r88 (T : Rg) (s : St) : (kRet tab [.tmp 6]).ret T s = .ok (.ret (T 6), s) := eqBy rfl
/- (partywall/queue.queue).room -/
noncomputable def c142 : Code := bodyC tab 142
theorem ec142 {ρ : Type} (k : K ρ) (a0 : AV) (s : St) : denK tab W V 15 c142 k (argE [a0]) s =
  bindR (boxA tab 202 a0 s.n) fun q0 =>
  bindR (mv (intV .i64 0)) fun v1 =>
  bindR (g1 (fieldAddr tab 202 q0.1 0)) fun v2 =>
  bindR (g1 (fieldAddr tab 27 v2 2)) fun v3 =>
  bindR (g1 (loadV tab (s.push q0.2) 3 v3)) fun v4 =>
  bindR (g1 (Dt.binOp tab .neq 3 v4 (intV .i64 0) true)) fun v5 =>
  condR v5
  (bindR (mv (intV .i64 0)) fun v6 =>
  k.ret (puts 15 (argE [a0]) [(1, q0.1), (2, v1), (3, v2), (4, v3), (5, v4), (6, v5), (2, v6)]) (s.push q0.2))
  (bindR (g1 (fieldAddr tab 202 q0.1 0)) fun v7 =>
  bindR (g1 (fieldAddr tab 27 v7 0)) fun v8 =>
  bindR (g1 (loadV tab (s.push q0.2) 3 v8)) fun v9 =>
  bindR (g1 (fieldAddr tab 202 q0.1 0)) fun v10 =>
  bindR (g1 (fieldAddr tab 27 v10 1)) fun v11 =>
  bindR (g1 (loadV tab (s.push q0.2) 25 v11)) fun v12 =>
  bindR (g1 (lenV tab 25 v12)) fun v13 =>
  bindR (g1 (Dt.binOp tab .sub 3 v9 v13 false)) fun v14 =>
  bindR (mv v14) fun v15 =>
  k.ret (puts 15 (argE [a0]) [(1, q0.1), (2, v1), (3, v2), (4, v3), (5, v4), (6, v5), (7, v7), (8, v8), (9, v9), (10, v10), (11, v11), (12, v12), (13, v13), (14, v14), (2, v15)]) (s.push q0.2)) := by kernel_rfl
theorem w142 {args : List AV} {s : St} {r : AEnd × St} (hl : args.length ≤ 15) (h : denK tab W V 15 c142 (kRet tab [.tmp 2]) (argE args) s = .ok r) : W 142 args s = .ok r :=
  callW_of (fn := Tryz.f142) (by kernel_rfl) (by kernel_rfl) (by kernel_rfl) (by kernel_rfl) (by kernel_rfl) hl h
theorem r142 (T : Rg) (s : St) : (kRet tab [.tmp 2]).ret T s = .ok (.ret (T 2), s) := eqBy rfl
/- slices.Clone[[]partywall/api.Item,partywall/api.Item] -/
noncomputable def c147 : Code := bodyC tab 147
theorem ec147 {ρ : Type} (k : K ρ) (a0 : AV) (s : St) : denK tab W V 8 c147 k (argE [a0]) s =
  bindR (mv (AV.base (.slice none 0 0))) fun v0 =>
  bindR (mv a0) fun v1 =>
  bindR (g1 (Dt.binOp tab .eql 25 v1 (AV.base (.slice none 0 0)) true)) fun v2 =>
  condR v2
  (bindR (mv (AV.base (.slice none 0 0))) fun v3 =>
  k.ret (puts 8 (argE [a0]) [(2, v0), (3, v1), (4, v2), (2, v3)]) s)
  (bindR (buildSliceA tab 25 0 [] s.n) fun q4 =>
  bindR (mv a0) fun v5 =>
  bindR (g4 (s.push q4.2) (appendV tab (s.push q4.2) 25 25 q4.1 v5)) fun q6 =>
  bindR (mv q6.1) fun v7 =>
  k.ret (puts 8 (argE [a0]) [(2, v0), (3, v1), (4, v2), (5, q4.1), (6, v5), (7, q6.1), (2, v7)]) q6.2) := by kernel_rfl
theorem w147 {args : List AV} {s : St} {r : AEnd × St} (hl : args.length ≤ 8) (h : denK tab W V 8 c147 (kRet tab [.tmp 2]) (argE args) s = .ok r) : W 147 args s = .ok r :=
  callW_of (fn := Tryz.f147) (by kernel_rfl) (by kernel_rfl) (by kernel_rfl) (by kernel_rfl) (by kernel_rfl) hl h
theorem r147 (T : Rg) (s : St) : (kRet tab [.tmp 2]).ret T s = .ok (.ret (T 2), s) := eqBy rfl
end Go.Proofs.YtkpkmjanikkpoaaGreatDoor
