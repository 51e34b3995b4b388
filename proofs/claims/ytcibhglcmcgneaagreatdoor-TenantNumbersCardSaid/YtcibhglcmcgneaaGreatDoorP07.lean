/-
  What the functions' code does, piece by piece: printed by a program of the prover's, each checked by the kernel. No statement of this seat stands here.
-/
import Derived.Test.YtcibhglcmcgneaaGreatDoorP06
namespace Go.Proofs.YtcibhglcmcgneaaGreatDoor
open Go Go.Dt
set_option maxRecDepth 100000
/- partywall/partywalllaw31.TenantNumbers -/
noncomputable def c3 : Code := bodyC tab 3
noncomputable def c3_1_1_1_1_0_1_0_0 : Code := subC (bodyC tab 3) [1, 1, 1, 1, 0, 1, 0, 0]
noncomputable def c3_1_1_1_1_1 : Code := subC (bodyC tab 3) [1, 1, 1, 1, 1]
noncomputable def c3_1_1_1_1_0_1_0_0_1 : Code := subC (bodyC tab 3) [1, 1, 1, 1, 0, 1, 0, 0, 1]
noncomputable def c3_1_1_1_1_0_1_0_0_1_0_0_1 : Code := subC (bodyC tab 3) [1, 1, 1, 1, 0, 1, 0, 0, 1, 0, 0, 1]
noncomputable def c3_1_1_1_1_0_1_0_0_1_1 : Code := subC (bodyC tab 3) [1, 1, 1, 1, 0, 1, 0, 0, 1, 1]
noncomputable def c3_1_1_1_1_0_1_0_0_1_0_0_1_1 : Code := subC (bodyC tab 3) [1, 1, 1, 1, 0, 1, 0, 0, 1, 0, 0, 1, 1]
noncomputable def c3_1_1_1_1_0_1_0_0_1_0_0_1_1_0_1_0_1 : Code := subC (bodyC tab 3) [1, 1, 1, 1, 0, 1, 0, 0, 1, 0, 0, 1, 1, 0, 1, 0, 1]
noncomputable def c3_1_1_1_1_0_1_0_0_1_0_0_1_1_1 : Code := subC (bodyC tab 3) [1, 1, 1, 1, 0, 1, 0, 0, 1, 0, 0, 1, 1, 1]
noncomputable def c3_1_1_1_1_0_1_0_0_1_0_0_1_1_0_1_1_1 : Code := subC (bodyC tab 3) [1, 1, 1, 1, 0, 1, 0, 0, 1, 0, 0, 1, 1, 0, 1, 1, 1]
noncomputable def c3_1_1_1_1_0_1_0_0_1_0_0_1_1_0_1_0_1_1 : Code := subC (bodyC tab 3) [1, 1, 1, 1, 0, 1, 0, 0, 1, 0, 0, 1, 1, 0, 1, 0, 1, 1]
noncomputable def c3_1_1_1_1_0_1_0_0_1_0_0_1_1_0_1_0_1_1_1 : Code := subC (bodyC tab 3) [1, 1, 1, 1, 0, 1, 0, 0, 1, 0, 0, 1, 1, 0, 1, 0, 1, 1, 1]
noncomputable def c3_1_1_1_1_0_1_0_0_1_0_0_1_1_0_1_0_1_1_1_1 : Code := subC (bodyC tab 3) [1, 1, 1, 1, 0, 1, 0, 0, 1, 0, 0, 1, 1, 0, 1, 0, 1, 1, 1, 1]
noncomputable def c3_1_1_1_1_0_1_0_0_1_0_0_1_1_0_1_0_1_1_1_1_1_0_1_1_0_1_0_0 : Code := subC (bodyC tab 3) [1, 1, 1, 1, 0, 1, 0, 0, 1, 0, 0, 1, 1, 0, 1, 0, 1, 1, 1, 1, 1, 0, 1, 1, 0, 1, 0, 0]
noncomputable def c3_1_1_1_1_0_1_0_0_1_0_0_1_1_0_1_0_1_1_1_1_1_0_1_1_1 : Code := subC (bodyC tab 3) [1, 1, 1, 1, 0, 1, 0, 0, 1, 0, 0, 1, 1, 0, 1, 0, 1, 1, 1, 1, 1, 0, 1, 1, 1]
theorem ec3_1_1_1_1_0_1_0_0 {ρ : Type} (k : K ρ) (T : Rg) (s : St) : denK tab W V 181 c3_1_1_1_1_0_1_0_0 k T s =
  bindR (mv (T 6)) fun v0 =>
  bindR (mv (T 0)) fun v1 =>
  bindR (g1 (lenV tab 22 v1)) fun v2 =>
  bindR (g1 (Dt.binOp tab .lss 3 v0 v2 false)) fun v3 =>
  bindR (mv v3) fun v4 =>
  bindR (bif isBoolV v4 true then .ok (T 6) else .ok AV.undef) fun v5 =>
  bindR (bif isBoolV v4 true then Dt.binOp tab .lss 3 v5 (intV .i64 20) true else .ok AV.undef) fun v6 =>
  bindR (g1 (pickV v4 v6 (boolV false))) fun v7 =>
  condR v7
  (denK tab W V 181 c3_1_1_1_1_0_1_0_0_1 k (puts 181 T [(23, v0), (24, v1), (25, v2), (26, v3), (27, v4), (28, v5), (29, v6), (30, v7)]) s)
  (k.exit 0 (puts 181 T [(23, v0), (24, v1), (25, v2), (26, v3), (27, v4), (28, v5), (29, v6), (30, v7)]) s) := by kernel_rfl
theorem ec3_1_1_1_1_1 {ρ : Type} (k : K ρ) (T : Rg) (s : St) : denK tab W V 181 c3_1_1_1_1_1 k T s =
  bindR (g2 s (W 15 [] s)) fun q0 => retK q0 (fun v1 s2 =>
  bindR (mv v1) fun v3 =>
  k.ret (puts 181 T [(180, v1), (2, v3)]) s2) k.pan := by kernel_rfl
theorem ec3_1_1_1_1_0_1_0_0_1 {ρ : Type} (k : K ρ) (T : Rg) (s : St) : denK tab W V 181 c3_1_1_1_1_0_1_0_0_1 k T s =
  bindR (mv (T 0)) fun v0 =>
  bindR (mv (T 6)) fun v1 =>
  bindR (g1 (indexAddr tab 22 v0 v1)) fun v2 =>
  bindR (g1 (loadV tab s 3 v2)) fun v3 =>
  bindR (g2 s (W 6 [v3, (intV .i64 1048576)] s)) fun q4 => retK q4 (fun v5 s6 =>
  bindR (mv v5) fun v7 =>
  denK tab W V 181 c3_1_1_1_1_0_1_0_0_1_0_0_1 (kblk 1 (kseq (denK tab W V 181 c3_1_1_1_1_0_1_0_0_1_1 k) k)) (puts 181 T [(33, v0), (34, v1), (35, v2), (36, v3), (37, v5), (7, v7)]) s6) k.pan := by kernel_rfl
theorem ec3_1_1_1_1_0_1_0_0_1_0_0_1 {ρ : Type} (k : K ρ) (T : Rg) (s : St) : denK tab W V 181 c3_1_1_1_1_0_1_0_0_1_0_0_1 k T s =
  bindR (g1 (loadV tab s 29 (T 3))) fun v0 =>
  bindR (g2 s (W 7 [v0] s)) fun q1 => retK q1 (fun v2 s3 =>
  bindR (allocA tab 29 s3.n) fun q4 =>
  bindR (g3 (s3.push q4.2) (storeV tab (s3.push q4.2) 29 q4.1 v2)) fun s5 =>
  denK tab W V 181 c3_1_1_1_1_0_1_0_0_1_0_0_1_1 k (puts 181 T [(38, v0), (39, v2), (8, q4.1)]) s5) k.pan := by kernel_rfl
theorem ec3_1_1_1_1_0_1_0_0_1_1 {ρ : Type} (k : K ρ) (T : Rg) (s : St) : denK tab W V 181 c3_1_1_1_1_0_1_0_0_1_1 k T s =
  bindR (mv (T 6)) fun v0 =>
  bindR (g1 (Dt.binOp tab .add 3 v0 (intV .i64 1) true)) fun v1 =>
  bindR (mv v1) fun v2 =>
  k.nxt (puts 181 T [(31, v0), (32, v1), (6, v2)]) s := by kernel_rfl
theorem ec3_1_1_1_1_0_1_0_0_1_0_0_1_1 {ρ : Type} (k : K ρ) (T : Rg) (s : St) : denK tab W V 181 c3_1_1_1_1_0_1_0_0_1_0_0_1_1 k T s =
  bindR (mv (T 7)) fun v0 =>
  bindR (g1 (Dt.binOp tab .rem 3 v0 (intV .i64 3) true)) fun v1 =>
  bindR (g1 (Dt.binOp tab .eql 3 v1 (intV .i64 0) true)) fun v2 =>
  condR v2
  (bindR (mv (T 7)) fun v3 =>
  bindR (g1 (Dt.binOp tab .quo 3 v3 (intV .i64 3) true)) fun v4 =>
  bindR (g1 (Dt.binOp tab .rem 3 v4 (intV .i64 12) true)) fun v5 =>
  bindR (mv v5) fun v6 =>
  denK tab W V 181 c3_1_1_1_1_0_1_0_0_1_0_0_1_1_0_1_0_1 (kseq (denK tab W V 181 c3_1_1_1_1_0_1_0_0_1_0_0_1_1_1 k) k) (puts 181 T [(40, v0), (41, v1), (42, v2), (43, v3), (44, v4), (45, v5), (9, v6)]) s)
  (bif ([(AV.func (.func 9) [] [])].all fun x => bndA s.n x) then bindR (g2 s (W 9 [] s)) fun q7 => retK q7 (fun v8 s9 =>
  bif Nat.ble s.n s9.n then bindR (.ok (T 7)) fun v10 =>
  bindR (Dt.binOp tab .quo 3 v10 (intV .i64 3) true) fun v11 =>
  bif ([(AV.func (.func 13) [] []), v11].all fun x => bndA s9.n x) then bindR (g2 s9 (W 13 [v11] s9)) fun q12 => retK q12 (fun v13 s14 =>
  bif Nat.ble s9.n s14.n then bindR (loadV tab s14 33 (T 4)) fun v15 => bif (sameR (loadV tab s14 33 (T 4)) v15 && (sameR (loadV tab s9 33 (T 4)) v15 && (sameR (loadV tab s 33 (T 4)) v15 && true))) then
  bindR (loadV tab s14 29 (T 3)) fun v16 => bif (sameR (loadV tab s14 29 (T 3)) v16 && (sameR (loadV tab s9 29 (T 3)) v16 && (sameR (loadV tab s 29 (T 3)) v16 && true))) then
  bif ([(AV.func (.func 12) [] []), v15, v8, v16, v13].all fun x => bndA s14.n x) then bindR (g2 s14 (W 12 [v15, v8, v16, v13] s14)) fun q17 => retK q17 (fun v18 s19 =>
  bif Nat.ble s14.n s19.n then bindR (.ok v18) fun v20 =>
  bindR (extractV v20 0) fun v21 =>
  bindR (allocA tab 29 s19.n) fun q22 => bif bndO (s19.n + 1) q22.2 then
  bindR (allocA tab 70 (s19.push q22.2).n) fun q23 => bif bndO ((s19.push q22.2).n + 1) q23.2 then
  bif ([q22.1, v21].all fun x => bndA ((s19.push q22.2).push q23.2).n x) then bindR (g3 ((s19.push q22.2).push q23.2) (storeV tab ((s19.push q22.2).push q23.2) 29 q22.1 v21)) fun s24 =>
  bif Nat.ble ((s19.push q22.2).push q23.2).n s24.n then bindR (extractV v20 1) fun v25 =>
  bindR (extractV v20 2) fun v26 =>
  bindR (.ok v25) fun v27 =>
  bif ([q23.1, v26].all fun x => bndA s24.n x) then bindR (g3 s24 (storeV tab s24 70 q23.1 v26)) fun s28 =>
  bif Nat.ble s24.n s28.n then denK tab W V 181 c3_1_1_1_1_0_1_0_0_1_0_0_1_1_0_1_1_1 (kseq (denK tab W V 181 c3_1_1_1_1_0_1_0_0_1_0_0_1_1_1 k) k) (puts 181 T [(40, v0), (41, v1), (42, v2), (125, v8), (127, v10), (128, v11), (129, v13), (124, v15), (126, v16), (130, v18), (123, v20), (131, v21), (16, q22.1), (18, q23.1), (132, v25), (133, v26), (17, v27)]) s28 else .error "draw n" else .error "draw ids" else .error "draw n" else .error "draw ids" else .error "draw object" else .error "draw object" else .error "draw n") (fun _ _ => .error "panic in a drawn region") else .error "draw ids" else .error "unstable read" else .error "unstable read" else .error "draw n") (fun _ _ => .error "panic in a drawn region") else .error "draw ids" else .error "draw n") (fun _ _ => .error "panic in a drawn region") else .error "draw ids") := by kernel_rfl
theorem ec3_1_1_1_1_0_1_0_0_1_0_0_1_1_0_1_0_1 {ρ : Type} (k : K ρ) (T : Rg) (s : St) : denK tab W V 181 c3_1_1_1_1_0_1_0_0_1_0_0_1_1_0_1_0_1 k T s =
  bif ([(AV.func (.func 9) [] [])].all fun x => bndA s.n x) then bindR (g2 s (W 9 [] s)) fun q0 => retK q0 (fun v1 s2 =>
  bif Nat.ble s.n s2.n then bindR (loadV tab s2 33 (T 4)) fun v3 => bif (sameR (loadV tab s2 33 (T 4)) v3 && (sameR (loadV tab s 33 (T 4)) v3 && true)) then
  bindR (loadV tab s2 29 (T 3)) fun v4 => bif (sameR (loadV tab s2 29 (T 3)) v4 && (sameR (loadV tab s 29 (T 3)) v4 && true)) then
  bindR (.ok (T 9)) fun v5 =>
  bif ([(AV.func (.func 8) [] []), v3, v1, v4, v5].all fun x => bndA s2.n x) then bindR (g2 s2 (W 8 [v3, v1, v4, v5] s2)) fun q6 => retK q6 (fun v7 s8 =>
  bif Nat.ble s2.n s8.n then bindR (.ok v7) fun v9 =>
  bindR (extractV v9 0) fun v10 =>
  bindR (allocA tab 29 s8.n) fun q11 => bif bndO (s8.n + 1) q11.2 then
  bif ([q11.1, v10].all fun x => bndA (s8.push q11.2).n x) then bindR (g3 (s8.push q11.2) (storeV tab (s8.push q11.2) 29 q11.1 v10)) fun s12 =>
  bif Nat.ble (s8.push q11.2).n s12.n then bindR (extractV v9 1) fun v13 =>
  bindR (.ok v13) fun v14 =>
  denK tab W V 181 c3_1_1_1_1_0_1_0_0_1_0_0_1_1_0_1_0_1_1 k (puts 181 T [(48, v1), (47, v3), (49, v4), (50, v5), (51, v7), (46, v9), (52, v10), (10, q11.1), (53, v13), (11, v14)]) s12 else .error "draw n" else .error "draw ids" else .error "draw object" else .error "draw n") (fun _ _ => .error "panic in a drawn region") else .error "draw ids" else .error "unstable read" else .error "unstable read" else .error "draw n") (fun _ _ => .error "panic in a drawn region") else .error "draw ids" := by kernel_rfl
theorem ec3_1_1_1_1_0_1_0_0_1_0_0_1_1_1 {ρ : Type} (k : K ρ) (T : Rg) (s : St) : denK tab W V 181 c3_1_1_1_1_0_1_0_0_1_0_0_1_1_1 k T s =
  bif ([(AV.func (.func 9) [] [])].all fun x => bndA s.n x) then bindR (g2 s (W 9 [] s)) fun q0 => retK q0 (fun v1 s2 =>
  bif Nat.ble s.n s2.n then bindR (loadV tab s2 33 (T 4)) fun v3 => bif (sameR (loadV tab s2 33 (T 4)) v3 && (sameR (loadV tab s 33 (T 4)) v3 && true)) then
  bindR (loadV tab s2 29 (T 3)) fun v4 => bif (sameR (loadV tab s2 29 (T 3)) v4 && (sameR (loadV tab s 29 (T 3)) v4 && true)) then
  bif ([(AV.func (.func 14) [] []), v3, v1, v4].all fun x => bndA s2.n x) then bindR (g2 s2 (W 14 [v3, v1, v4] s2)) fun q5 => retK q5 (fun v6 s7 =>
  bif Nat.ble s2.n s7.n then bindR (Dt.binOp tab .neq 37 v6 (intV .i64 0) true) fun v8 =>
  bindR (.ok v8) fun v9 =>
  boolM (isBoolV v9 false) (bindR (fieldAddr tab 29 (T 3) 2) fun v33 => boolM (isBoolV v9 false) (bindR (loadV tab s7 3 v33) fun v45 => bif (sameR (loadV tab s7 3 v33) v45 && true) then boolM (isBoolV v9 false) (bindR (.ok (T 5)) fun v51 => boolM (isBoolV v9 false) (bindR (Dt.binOp tab .neq 3 v45 v51 false) fun v54 => bindR (pickV v9 (boolV true) v54) fun v55 =>
  condR v55
  (bindR (mv (boolV false)) fun v56 =>
  k.ret (puts 181 T [(170, v1), (169, v3), (171, v4), (172, v6), (173, v8), (174, v9), (175, v33), (176, v45), (177, v51), (178, v54), (179, v55), (2, v56)]) s7)
  (k.nxt (puts 181 T [(170, v1), (169, v3), (171, v4), (172, v6), (173, v8), (174, v9), (175, v33), (176, v45), (177, v51), (178, v54), (179, v55)]) s7)) (bindR (pickV v9 (boolV true) AV.undef) fun v52 =>
  condR v52
  (bindR (mv (boolV false)) fun v53 =>
  k.ret (puts 181 T [(170, v1), (169, v3), (171, v4), (172, v6), (173, v8), (174, v9), (175, v33), (176, v45), (177, v51), (178, AV.undef), (179, v52), (2, v53)]) s7)
  (k.nxt (puts 181 T [(170, v1), (169, v3), (171, v4), (172, v6), (173, v8), (174, v9), (175, v33), (176, v45), (177, v51), (178, AV.undef), (179, v52)]) s7))) (boolM (isBoolV v9 false) (bindR (Dt.binOp tab .neq 3 v45 AV.undef false) fun v48 => bindR (pickV v9 (boolV true) v48) fun v49 =>
  condR v49
  (bindR (mv (boolV false)) fun v50 =>
  k.ret (puts 181 T [(170, v1), (169, v3), (171, v4), (172, v6), (173, v8), (174, v9), (175, v33), (176, v45), (177, AV.undef), (178, v48), (179, v49), (2, v50)]) s7)
  (k.nxt (puts 181 T [(170, v1), (169, v3), (171, v4), (172, v6), (173, v8), (174, v9), (175, v33), (176, v45), (177, AV.undef), (178, v48), (179, v49)]) s7)) (bindR (pickV v9 (boolV true) AV.undef) fun v46 =>
  condR v46
  (bindR (mv (boolV false)) fun v47 =>
  k.ret (puts 181 T [(170, v1), (169, v3), (171, v4), (172, v6), (173, v8), (174, v9), (175, v33), (176, v45), (177, AV.undef), (178, AV.undef), (179, v46), (2, v47)]) s7)
  (k.nxt (puts 181 T [(170, v1), (169, v3), (171, v4), (172, v6), (173, v8), (174, v9), (175, v33), (176, v45), (177, AV.undef), (178, AV.undef), (179, v46)]) s7))) else .error "unstable read") (boolM (isBoolV v9 false) (bindR (.ok (T 5)) fun v39 => boolM (isBoolV v9 false) (bindR (Dt.binOp tab .neq 3 AV.undef v39 false) fun v42 => bindR (pickV v9 (boolV true) v42) fun v43 =>
  condR v43
  (bindR (mv (boolV false)) fun v44 =>
  k.ret (puts 181 T [(170, v1), (169, v3), (171, v4), (172, v6), (173, v8), (174, v9), (175, v33), (176, AV.undef), (177, v39), (178, v42), (179, v43), (2, v44)]) s7)
  (k.nxt (puts 181 T [(170, v1), (169, v3), (171, v4), (172, v6), (173, v8), (174, v9), (175, v33), (176, AV.undef), (177, v39), (178, v42), (179, v43)]) s7)) (bindR (pickV v9 (boolV true) AV.undef) fun v40 =>
  condR v40
  (bindR (mv (boolV false)) fun v41 =>
  k.ret (puts 181 T [(170, v1), (169, v3), (171, v4), (172, v6), (173, v8), (174, v9), (175, v33), (176, AV.undef), (177, v39), (178, AV.undef), (179, v40), (2, v41)]) s7)
  (k.nxt (puts 181 T [(170, v1), (169, v3), (171, v4), (172, v6), (173, v8), (174, v9), (175, v33), (176, AV.undef), (177, v39), (178, AV.undef), (179, v40)]) s7))) (boolM (isBoolV v9 false) (bindR (Dt.binOp tab .neq 3 AV.undef AV.undef false) fun v36 => bindR (pickV v9 (boolV true) v36) fun v37 =>
  condR v37
  (bindR (mv (boolV false)) fun v38 =>
  k.ret (puts 181 T [(170, v1), (169, v3), (171, v4), (172, v6), (173, v8), (174, v9), (175, v33), (176, AV.undef), (177, AV.undef), (178, v36), (179, v37), (2, v38)]) s7)
  (k.nxt (puts 181 T [(170, v1), (169, v3), (171, v4), (172, v6), (173, v8), (174, v9), (175, v33), (176, AV.undef), (177, AV.undef), (178, v36), (179, v37)]) s7)) (bindR (pickV v9 (boolV true) AV.undef) fun v34 =>
  condR v34
  (bindR (mv (boolV false)) fun v35 =>
  k.ret (puts 181 T [(170, v1), (169, v3), (171, v4), (172, v6), (173, v8), (174, v9), (175, v33), (176, AV.undef), (177, AV.undef), (178, AV.undef), (179, v34), (2, v35)]) s7)
  (k.nxt (puts 181 T [(170, v1), (169, v3), (171, v4), (172, v6), (173, v8), (174, v9), (175, v33), (176, AV.undef), (177, AV.undef), (178, AV.undef), (179, v34)]) s7))))) (boolM (isBoolV v9 false) (bindR (loadV tab s7 3 AV.undef) fun v21 => bif (sameR (loadV tab s7 3 AV.undef) v21 && true) then boolM (isBoolV v9 false) (bindR (.ok (T 5)) fun v27 => boolM (isBoolV v9 false) (bindR (Dt.binOp tab .neq 3 v21 v27 false) fun v30 => bindR (pickV v9 (boolV true) v30) fun v31 =>
  condR v31
  (bindR (mv (boolV false)) fun v32 =>
  k.ret (puts 181 T [(170, v1), (169, v3), (171, v4), (172, v6), (173, v8), (174, v9), (175, AV.undef), (176, v21), (177, v27), (178, v30), (179, v31), (2, v32)]) s7)
  (k.nxt (puts 181 T [(170, v1), (169, v3), (171, v4), (172, v6), (173, v8), (174, v9), (175, AV.undef), (176, v21), (177, v27), (178, v30), (179, v31)]) s7)) (bindR (pickV v9 (boolV true) AV.undef) fun v28 =>
  condR v28
  (bindR (mv (boolV false)) fun v29 =>
  k.ret (puts 181 T [(170, v1), (169, v3), (171, v4), (172, v6), (173, v8), (174, v9), (175, AV.undef), (176, v21), (177, v27), (178, AV.undef), (179, v28), (2, v29)]) s7)
  (k.nxt (puts 181 T [(170, v1), (169, v3), (171, v4), (172, v6), (173, v8), (174, v9), (175, AV.undef), (176, v21), (177, v27), (178, AV.undef), (179, v28)]) s7))) (boolM (isBoolV v9 false) (bindR (Dt.binOp tab .neq 3 v21 AV.undef false) fun v24 => bindR (pickV v9 (boolV true) v24) fun v25 =>
  condR v25
  (bindR (mv (boolV false)) fun v26 =>
  k.ret (puts 181 T [(170, v1), (169, v3), (171, v4), (172, v6), (173, v8), (174, v9), (175, AV.undef), (176, v21), (177, AV.undef), (178, v24), (179, v25), (2, v26)]) s7)
  (k.nxt (puts 181 T [(170, v1), (169, v3), (171, v4), (172, v6), (173, v8), (174, v9), (175, AV.undef), (176, v21), (177, AV.undef), (178, v24), (179, v25)]) s7)) (bindR (pickV v9 (boolV true) AV.undef) fun v22 =>
  condR v22
  (bindR (mv (boolV false)) fun v23 =>
  k.ret (puts 181 T [(170, v1), (169, v3), (171, v4), (172, v6), (173, v8), (174, v9), (175, AV.undef), (176, v21), (177, AV.undef), (178, AV.undef), (179, v22), (2, v23)]) s7)
  (k.nxt (puts 181 T [(170, v1), (169, v3), (171, v4), (172, v6), (173, v8), (174, v9), (175, AV.undef), (176, v21), (177, AV.undef), (178, AV.undef), (179, v22)]) s7))) else .error "unstable read") (boolM (isBoolV v9 false) (bindR (.ok (T 5)) fun v15 => boolM (isBoolV v9 false) (bindR (Dt.binOp tab .neq 3 AV.undef v15 false) fun v18 => bindR (pickV v9 (boolV true) v18) fun v19 =>
  condR v19
  (bindR (mv (boolV false)) fun v20 =>
  k.ret (puts 181 T [(170, v1), (169, v3), (171, v4), (172, v6), (173, v8), (174, v9), (175, AV.undef), (176, AV.undef), (177, v15), (178, v18), (179, v19), (2, v20)]) s7)
  (k.nxt (puts 181 T [(170, v1), (169, v3), (171, v4), (172, v6), (173, v8), (174, v9), (175, AV.undef), (176, AV.undef), (177, v15), (178, v18), (179, v19)]) s7)) (bindR (pickV v9 (boolV true) AV.undef) fun v16 =>
  condR v16
  (bindR (mv (boolV false)) fun v17 =>
  k.ret (puts 181 T [(170, v1), (169, v3), (171, v4), (172, v6), (173, v8), (174, v9), (175, AV.undef), (176, AV.undef), (177, v15), (178, AV.undef), (179, v16), (2, v17)]) s7)
  (k.nxt (puts 181 T [(170, v1), (169, v3), (171, v4), (172, v6), (173, v8), (174, v9), (175, AV.undef), (176, AV.undef), (177, v15), (178, AV.undef), (179, v16)]) s7))) (boolM (isBoolV v9 false) (bindR (Dt.binOp tab .neq 3 AV.undef AV.undef false) fun v12 => bindR (pickV v9 (boolV true) v12) fun v13 =>
  condR v13
  (bindR (mv (boolV false)) fun v14 =>
  k.ret (puts 181 T [(170, v1), (169, v3), (171, v4), (172, v6), (173, v8), (174, v9), (175, AV.undef), (176, AV.undef), (177, AV.undef), (178, v12), (179, v13), (2, v14)]) s7)
  (k.nxt (puts 181 T [(170, v1), (169, v3), (171, v4), (172, v6), (173, v8), (174, v9), (175, AV.undef), (176, AV.undef), (177, AV.undef), (178, v12), (179, v13)]) s7)) (bindR (pickV v9 (boolV true) AV.undef) fun v10 =>
  condR v10
  (bindR (mv (boolV false)) fun v11 =>
  k.ret (puts 181 T [(170, v1), (169, v3), (171, v4), (172, v6), (173, v8), (174, v9), (175, AV.undef), (176, AV.undef), (177, AV.undef), (178, AV.undef), (179, v10), (2, v11)]) s7)
  (k.nxt (puts 181 T [(170, v1), (169, v3), (171, v4), (172, v6), (173, v8), (174, v9), (175, AV.undef), (176, AV.undef), (177, AV.undef), (178, AV.undef), (179, v10)]) s7))))) else .error "draw n") (fun _ _ => .error "panic in a drawn region") else .error "draw ids" else .error "unstable read" else .error "unstable read" else .error "draw n") (fun _ _ => .error "panic in a drawn region") else .error "draw ids" := by kernel_rfl
theorem ec3_1_1_1_1_0_1_0_0_1_0_0_1_1_0_1_1_1 {ρ : Type} (k : K ρ) (T : Rg) (s : St) : denK tab W V 181 c3_1_1_1_1_0_1_0_0_1_0_0_1_1_0_1_1_1 k T s =
  bindR (g1 (fieldAddr tab 70 (T 18) 0)) fun v0 =>
  bindR (g1 (loadV tab s 37 v0)) fun v1 =>
  bindR (g1 (Dt.binOp tab .neq 37 v1 (intV .i64 0) true)) fun v2 =>
  condR v2
  (bindR (g1 (loadV tab s 70 (T 18))) fun v3 =>
  bindR (g1 (Dt.build tab 70 [(0, (intV .i64 15))])) fun v4 =>
  bindR (g1 (Dt.binOp tab .neq 70 v3 v4 false)) fun v5 =>
  bindR (mv v5) fun v6 =>
  bindR (bif isBoolV v6 false then fieldAddr tab 29 (T 8) 3 else .ok AV.undef) fun v7 =>
  bindR (bif isBoolV v6 false then loadV tab s 24 v7 else .ok AV.undef) fun v8 =>
  bindR (bif isBoolV v6 false then lenV tab 24 v8 else .ok AV.undef) fun v9 =>
  bindR (bif isBoolV v6 false then Dt.binOp tab .lss 3 v9 (intV .i64 4) true else .ok AV.undef) fun v10 =>
  bindR (g1 (pickV v6 (boolV true) v10)) fun v11 =>
  condR v11
  (bindR (mv (boolV false)) fun v12 =>
  k.ret (puts 181 T [(134, v0), (135, v1), (136, v2), (137, v3), (138, v4), (139, v5), (140, v6), (141, v7), (142, v8), (143, v9), (144, v10), (145, v11), (2, v12)]) s)
  (k.nxt (puts 181 T [(134, v0), (135, v1), (136, v2), (137, v3), (138, v4), (139, v5), (140, v6), (141, v7), (142, v8), (143, v9), (144, v10), (145, v11)]) s))
  (bindR (mv (T 5)) fun v13 =>
  bindR (g1 (Dt.binOp tab .add 3 v13 (intV .i64 1) true)) fun v14 =>
  bindR (mv v14) fun v15 =>
  bindR (g1 (loadV tab s 29 (T 16))) fun v16 =>
  bindR (mv (T 17)) fun v17 =>
  bindR (g2 s (W 10 [v16, v17] s)) fun q18 => retK q18 (fun v19 s20 =>
  bindR (mv v19) fun v21 =>
  bindR (g1 (extractV v21 0)) fun v22 =>
  bindR (g1 (extractV v21 1)) fun v23 =>
  bindR (mv v22) fun v24 =>
  bindR (mv v23) fun v25 =>
  bindR (mv (T 17)) fun v26 =>
  bindR (mv v15) fun v27 =>
  bindR (g1 (Dt.binOp tab .neq 3 v26 v27 false)) fun v28 =>
  bindR (mv v28) fun v29 =>
  bindR (bif isBoolV v29 false then .ok v25 else .ok AV.undef) fun v30 =>
  bindR (bif isBoolV v29 false then Dt.binOp tab .neq 37 v30 (intV .i64 0) true else .ok AV.undef) fun v31 =>
  bindR (g1 (pickV v29 (boolV true) v31)) fun v32 =>
  bindR (mv v32) fun v33 =>
  bindR (bif isBoolV v33 false then .ok v24 else .ok AV.undef) fun v34 =>
  bindR (bif isBoolV v33 false then fieldAddr tab 29 (T 8) 3 else .ok AV.undef) fun v35 =>
  bindR (bif isBoolV v33 false then loadV tab s20 24 v35 else .ok AV.undef) fun v36 =>
  bindR (bif isBoolV v33 false then lenV tab 24 v36 else .ok AV.undef) fun v37 =>
  bindR (bif isBoolV v33 false then Dt.binOp tab .neq 3 v34 v37 false else .ok AV.undef) fun v38 =>
  bindR (g1 (pickV v33 (boolV true) v38)) fun v39 =>
  condR v39
  (bindR (mv (boolV false)) fun v40 =>
  k.ret (puts 181 T [(134, v0), (135, v1), (136, v2), (146, v13), (147, v14), (5, v15), (149, v16), (150, v17), (151, v19), (148, v21), (152, v22), (153, v23), (19, v24), (20, v25), (154, v26), (155, v27), (156, v28), (157, v29), (158, v30), (159, v31), (160, v32), (161, v33), (162, v34), (163, v35), (164, v36), (165, v37), (166, v38), (167, v39), (2, v40)]) s20)
  (bindR (g1 (loadV tab s20 29 (T 16))) fun v41 =>
  bindR (g3 s20 (storeV tab s20 29 (T 3) v41)) fun s42 =>
  k.nxt (puts 181 T [(134, v0), (135, v1), (136, v2), (146, v13), (147, v14), (5, v15), (149, v16), (150, v17), (151, v19), (148, v21), (152, v22), (153, v23), (19, v24), (20, v25), (154, v26), (155, v27), (156, v28), (157, v29), (158, v30), (159, v31), (160, v32), (161, v33), (162, v34), (163, v35), (164, v36), (165, v37), (166, v38), (167, v39), (168, v41)]) s42)) k.pan) := by kernel_rfl
theorem ec3_1_1_1_1_0_1_0_0_1_0_0_1_1_0_1_0_1_1 {ρ : Type} (k : K ρ) (T : Rg) (s : St) : denK tab W V 181 c3_1_1_1_1_0_1_0_0_1_0_0_1_1_0_1_0_1_1 k T s =
  bindR (g1 (loadV tab s 29 (T 3))) fun v0 =>
  bindR (mv (T 9)) fun v1 =>
  bindR (g2 s (W 10 [v0, v1] s)) fun q2 => retK q2 (fun v3 s4 =>
  bindR (mv v3) fun v5 =>
  bindR (g1 (extractV v5 0)) fun v6 =>
  bindR (g1 (extractV v5 1)) fun v7 =>
  bindR (mv v6) fun v8 =>
  bindR (mv v7) fun v9 =>
  denK tab W V 181 c3_1_1_1_1_0_1_0_0_1_0_0_1_1_0_1_0_1_1_1 k (puts 181 T [(55, v0), (56, v1), (57, v3), (54, v5), (58, v6), (59, v7), (12, v8), (13, v9)]) s4) k.pan := by kernel_rfl
theorem ec3_1_1_1_1_0_1_0_0_1_0_0_1_1_0_1_0_1_1_1 {ρ : Type} (k : K ρ) (T : Rg) (s : St) : denK tab W V 181 c3_1_1_1_1_0_1_0_0_1_0_0_1_1_0_1_0_1_1_1 k T s =
  bindR (mv (T 11)) fun v0 =>
  bindR (g1 (Dt.binOp tab .eql 37 v0 (intV .i64 0) true)) fun v1 =>
  bindR (mv (T 13)) fun v2 =>
  bindR (g1 (Dt.binOp tab .eql 37 v2 (intV .i64 0) true)) fun v3 =>
  bindR (g1 (Dt.binOp tab .neq 4 v1 v3 false)) fun v4 =>
  bindR (mv v4) fun v5 =>
  bindR (bif isBoolV v5 false then .ok (T 11) else .ok AV.undef) fun v6 =>
  bindR (bif isBoolV v5 false then Dt.binOp tab .neq 37 v6 (intV .i64 0) true else .ok AV.undef) fun v7 =>
  bindR (bif isBoolV v5 false then .ok v7 else .ok AV.undef) fun v8 =>
  bindR (bif isBoolV v8 true then .ok (T 11) else .ok AV.undef) fun v9 =>
  bindR (bif isBoolV v8 true then Dt.binOp tab .neq 37 v9 (intV .i64 7) true else .ok AV.undef) fun v10 =>
  bindR (bif isBoolV v5 false then pickV v8 v10 (boolV false) else .ok AV.undef) fun v11 =>
  bindR (g1 (pickV v5 (boolV true) v11)) fun v12 =>
  condR v12
  (bindR (mv (boolV false)) fun v13 =>
  k.ret (puts 181 T [(60, v0), (61, v1), (62, v2), (63, v3), (64, v4), (65, v5), (66, v6), (67, v7), (68, v8), (69, v9), (70, v10), (71, v11), (72, v12), (2, v13)]) s)
  (denK tab W V 181 c3_1_1_1_1_0_1_0_0_1_0_0_1_1_0_1_0_1_1_1_1 k (puts 181 T [(60, v0), (61, v1), (62, v2), (63, v3), (64, v4), (65, v5), (66, v6), (67, v7), (68, v8), (69, v9), (70, v10), (71, v11), (72, v12)]) s) := by kernel_rfl
theorem ec3_1_1_1_1_0_1_0_0_1_0_0_1_1_0_1_0_1_1_1_1 {ρ : Type} (k : K ρ) (T : Rg) (s : St) : denK tab W V 181 c3_1_1_1_1_0_1_0_0_1_0_0_1_1_0_1_0_1_1_1_1 k T s =
  bindR (mv (T 11)) fun v0 =>
  bindR (g1 (Dt.binOp tab .eql 37 v0 (intV .i64 0) true)) fun v1 =>
  condR v1
  (bindR (mv (T 12)) fun v2 =>
  bindR (g1 (Dt.binOp tab .lss 3 v2 (intV .i64 0) true)) fun v3 =>
  bindR (mv v3) fun v4 =>
  bindR (bif isBoolV v4 false then .ok (T 12) else .ok AV.undef) fun v5 =>
  bindR (bif isBoolV v4 false then fieldAddr tab 29 (T 8) 3 else .ok AV.undef) fun v6 =>
  bindR (bif isBoolV v4 false then loadV tab s 24 v6 else .ok AV.undef) fun v7 =>
  bindR (bif isBoolV v4 false then lenV tab 24 v7 else .ok AV.undef) fun v8 =>
  bindR (bif isBoolV v4 false then Dt.binOp tab .geq 3 v5 v8 false else .ok AV.undef) fun v9 =>
  bindR (g1 (pickV v4 (boolV true) v9)) fun v10 =>
  bindR (mv v10) fun v11 =>
  bindR (bif isBoolV v11 false then fieldAddr tab 29 (T 10) 3 else .ok AV.undef) fun v12 =>
  bindR (bif isBoolV v11 false then loadV tab s 24 v12 else .ok AV.undef) fun v13 =>
  bindR (bif isBoolV v11 false then lenV tab 24 v13 else .ok AV.undef) fun v14 =>
  bindR (bif isBoolV v11 false then fieldAddr tab 29 (T 8) 3 else .ok AV.undef) fun v15 =>
  bindR (bif isBoolV v11 false then loadV tab s 24 v15 else .ok AV.undef) fun v16 =>
  bindR (bif isBoolV v11 false then lenV tab 24 v16 else .ok AV.undef) fun v17 =>
  bindR (bif isBoolV v11 false then Dt.binOp tab .sub 3 v17 (intV .i64 1) true else .ok AV.undef) fun v18 =>
  bindR (bif isBoolV v11 false then Dt.binOp tab .neq 3 v14 v18 false else .ok AV.undef) fun v19 =>
  bindR (g1 (pickV v11 (boolV true) v19)) fun v20 =>
  condR v20
  (bindR (mv (boolV false)) fun v21 =>
  k.ret (puts 181 T [(73, v0), (74, v1), (75, v2), (76, v3), (77, v4), (78, v5), (79, v6), (80, v7), (81, v8), (82, v9), (83, v10), (84, v11), (85, v12), (86, v13), (87, v14), (88, v15), (89, v16), (90, v17), (91, v18), (92, v19), (93, v20), (2, v21)]) s)
  (bindR (fieldAddr tab 29 (T 8) 3) fun v22 =>
  bindR (loadV tab s 24 v22) fun v23 => bif (sameR (loadV tab s 24 v22) v23 && true) then
  bindR (.ok (T 12)) fun v24 =>
  bindR (.ok (T 12)) fun v25 =>
  bindR (sliceV tab 24 v23 none (some v24) (some v25)) fun v26 =>
  bindR (fieldAddr tab 29 (T 8) 3) fun v27 =>
  bindR (loadV tab s 24 v27) fun v28 => bif (sameR (loadV tab s 24 v27) v28 && true) then
  bindR (.ok (T 12)) fun v29 =>
  bindR (Dt.binOp tab .add 3 v29 (intV .i64 1) true) fun v30 =>
  bindR (sliceV tab 24 v28 (some v30) none none) fun v31 =>
  bif ([v26, v31].all fun x => bndA s.n x) then bindR (g4 s (appendV tab s 24 24 v26 v31)) fun q32 =>
  bif Nat.ble s.n q32.2.n then bindR (.ok q32.1) fun v33 =>
  bindR (mv (intV .i64 0)) fun v34 =>
  bindR (loopLim (dd tab W V 181 c3_1_1_1_1_0_1_0_0_1_0_0_1_1_0_1_0_1_1_1_1_1_0_1_1_0_1_0_0) (puts 181 T [(73, v0), (74, v1), (75, v2), (76, v3), (77, v4), (78, v5), (79, v6), (80, v7), (81, v8), (82, v9), (83, v10), (84, v11), (85, v12), (86, v13), (87, v14), (88, v15), (89, v16), (90, v17), (91, v18), (92, v19), (93, v20), (94, v22), (95, v23), (96, v24), (97, v25), (98, v26), (99, v27), (100, v28), (101, v29), (102, v30), (103, v31), (104, q32.1), (14, v33), (15, v34)]) q32.2) (K.app (kblk 2 (kseq (denK tab W V 181 c3_1_1_1_1_0_1_0_0_1_0_0_1_1_0_1_0_1_1_1_1_1_0_1_1_1 k) k))) else .error "draw n" else .error "draw ids" else .error "unstable read" else .error "unstable read"))
  (k.nxt (puts 181 T [(73, v0), (74, v1)]) s) := by kernel_rfl
theorem ec3_1_1_1_1_0_1_0_0_1_0_0_1_1_0_1_0_1_1_1_1_1_0_1_1_0_1_0_0 {ρ : Type} (k : K ρ) (T : Rg) (s : St) : denK tab W V 181 c3_1_1_1_1_0_1_0_0_1_0_0_1_1_0_1_0_1_1_1_1_1_0_1_1_0_1_0_0 k T s =
  bindR (mv (T 15)) fun v0 =>
  bindR (mv (T 14)) fun v1 =>
  bindR (g1 (lenV tab 24 v1)) fun v2 =>
  bindR (g1 (Dt.binOp tab .lss 3 v0 v2 false)) fun v3 =>
  condR v3
  (bindR (.ok (T 14)) fun v4 =>
  bindR (.ok (T 15)) fun v5 =>
  bindR (indexAddr tab 24 v4 v5) fun v6 =>
  bindR (loadV tab s 68 v6) fun v7 => bif (sameR (loadV tab s 68 v6) v7 && true) then
  bindR (fieldAddr tab 29 (T 10) 3) fun v8 =>
  bindR (loadV tab s 24 v8) fun v9 => bif (sameR (loadV tab s 24 v8) v9 && true) then
  bindR (.ok (T 15)) fun v10 =>
  bindR (indexAddr tab 24 v9 v10) fun v11 =>
  bindR (loadV tab s 68 v11) fun v12 => bif (sameR (loadV tab s 68 v11) v12 && true) then
  bif ([(AV.func (.func 11) [] []), v7, v12].all fun x => bndA s.n x) then bindR (g2 s (W 11 [v7, v12] s)) fun q13 => retK q13 (fun v14 s15 =>
  bif Nat.ble s.n s15.n then bindR (Dt.unOp .not v14) fun v16 =>
  condR v16
  (bindR (mv (boolV false)) fun v17 =>
  k.ret (puts 181 T [(105, v0), (106, v1), (107, v2), (108, v3), (111, v4), (112, v5), (113, v6), (114, v7), (115, v8), (116, v9), (117, v10), (118, v11), (119, v12), (120, v14), (121, v16), (2, v17)]) s15)
  (bindR (mv (T 15)) fun v18 =>
  bindR (g1 (Dt.binOp tab .add 3 v18 (intV .i64 1) true)) fun v19 =>
  bindR (mv v19) fun v20 =>
  k.nxt (puts 181 T [(105, v0), (106, v1), (107, v2), (108, v3), (111, v4), (112, v5), (113, v6), (114, v7), (115, v8), (116, v9), (117, v10), (118, v11), (119, v12), (120, v14), (121, v16), (109, v18), (110, v19), (15, v20)]) s15) else .error "draw n") (fun _ _ => .error "panic in a drawn region") else .error "draw ids" else .error "unstable read" else .error "unstable read" else .error "unstable read")
  (k.exit 2 (puts 181 T [(105, v0), (106, v1), (107, v2), (108, v3)]) s) := by kernel_rfl
theorem ec3_1_1_1_1_0_1_0_0_1_0_0_1_1_0_1_0_1_1_1_1_1_0_1_1_1 {ρ : Type} (k : K ρ) (T : Rg) (s : St) : denK tab W V 181 c3_1_1_1_1_0_1_0_0_1_0_0_1_1_0_1_0_1_1_1_1_1_0_1_1_1 k T s =
  bindR (g1 (loadV tab s 29 (T 10))) fun v0 =>
  bindR (g3 s (storeV tab s 29 (T 3) v0)) fun s1 =>
  k.nxt (puts 181 T [(122, v0)]) s1 := by kernel_rfl
theorem ec3 {ρ : Type} (k : K ρ) (a0 : AV) (s : St) : denK tab W V 181 c3 k (argE [a0]) s =
  bindR (mv (boolV false)) fun v0 =>
  bindR (g2 s (W 4 [] s)) fun q1 => retK q1 (fun v2 s3 =>
  bindR (allocA tab 29 s3.n) fun q4 =>
  bindR (g3 (s3.push q4.2) (storeV tab (s3.push q4.2) 29 q4.1 v2)) fun s5 =>
  bindR (g2 s5 (W 5 [] s5)) fun q6 => retK q6 (fun v7 s8 =>
  bindR (allocA tab 33 s8.n) fun q9 =>
  bindR (g3 (s8.push q9.2) (storeV tab (s8.push q9.2) 33 q9.1 v7)) fun s10 =>
  bindR (mv (intV .i64 0)) fun v11 =>
  bindR (mv (intV .i64 0)) fun v12 =>
  bindR (loopLim (dd tab W V 181 c3_1_1_1_1_0_1_0_0) (puts 181 (argE [a0]) [(2, v0), (21, v2), (3, q4.1), (22, v7), (4, q9.1), (5, v11), (6, v12)]) s10) (K.app (kblk 0 (kseq (denK tab W V 181 c3_1_1_1_1_1 k) k)))) k.pan) k.pan := by kernel_rfl
theorem w3 {args : List AV} {s : St} {r : AEnd × St} (hl : args.length ≤ 181) (h : denK tab W V 181 c3 (kRet tab [.tmp 2]) (argE args) s = .ok r) : W 3 args s = .ok r :=
  callW_of (fn := Tryz.f3) (by kernel_rfl) (by kernel_rfl) (by kernel_rfl) (by kernel_rfl) (by kernel_rfl) hl h
theorem r3 (T : Rg) (s : St) : (kRet tab [.tmp 2]).ret T s = .ok (.ret (T 2), s) := eqBy rfl
/- partywall/partywallkit.Mod -/
noncomputable def c6 : Code := bodyC tab 6
noncomputable def c6_1_1_1_1 : Code := subC (bodyC tab 6) [1, 1, 1, 1]
theorem ec6_1_1_1_1 {ρ : Type} (k : K ρ) (T : Rg) (s : St) : denK tab W V 16 c6_1_1_1_1 k T s =
  bindR (mv (T 0)) fun v0 =>
  bindR (mv v0) fun v1 =>
  k.ret (puts 16 T [(15, v0), (4, v1)]) s := by kernel_rfl
theorem ec6 {ρ : Type} (k : K ρ) (a0 a1 : AV) (s : St) : denK tab W V 16 c6 k (argE [a0, a1]) s =
  bindR (mv (intV .i64 0)) fun v0 =>
  bindR (mv a1) fun v1 =>
  bindR (g1 (Dt.binOp tab .lss 3 v1 (intV .i64 1) true)) fun v2 =>
  condR v2
  (bindR (mv (intV .i64 0)) fun v3 =>
  k.ret (puts 16 (argE [a0, a1]) [(4, v0), (5, v1), (6, v2), (4, v3)]) s)
  (bindR (mv a0) fun v4 =>
  bindR (mv a1) fun v5 =>
  bindR (g1 (Dt.binOp tab .rem 3 v4 v5 false)) fun v6 =>
  bindR (mv v6) fun v7 =>
  bindR (mv v7) fun v8 =>
  bindR (g1 (Dt.binOp tab .lss 3 v8 (intV .i64 0) true)) fun v9 =>
  condR v9
  (bindR (mv v7) fun v10 =>
  bindR (mv a1) fun v11 =>
  bindR (g1 (Dt.binOp tab .add 3 v10 v11 false)) fun v12 =>
  bindR (mv v12) fun v13 =>
  denK tab W V 16 c6_1_1_1_1 k (puts 16 (argE [a0, a1]) [(4, v0), (5, v1), (6, v2), (7, v4), (8, v5), (9, v6), (0, v7), (10, v8), (11, v9), (12, v10), (13, v11), (14, v12), (0, v13)]) s)
  (denK tab W V 16 c6_1_1_1_1 k (puts 16 (argE [a0, a1]) [(4, v0), (5, v1), (6, v2), (7, v4), (8, v5), (9, v6), (0, v7), (10, v8), (11, v9)]) s)) := by kernel_rfl
theorem w6 {args : List AV} {s : St} {r : AEnd × St} (hl : args.length ≤ 16) (h : denK tab W V 16 c6 (kRet tab [.tmp 4]) (argE args) s = .ok r) : W 6 args s = .ok r :=
  callW_of (fn := Tryz.f6) (by kernel_rfl) (by kernel_rfl) (by kernel_rfl) (by kernel_rfl) (by kernel_rfl) hl h
theorem r6 (T : Rg) (s : St) : (kRet tab [.tmp 4]).ret T s = .ok (.ret (T 4), s) := eqBy rfl
/- partywall/partywallkit.OwnTenant -/
noncomputable def c7 : Code := bodyC tab 7
noncomputable def c7_1_1_1_0_1_0_0 : Code := subC (bodyC tab 7) [1, 1, 1, 0, 1, 0, 0]
noncomputable def c7_1_1_1_1 : Code := subC (bodyC tab 7) [1, 1, 1, 1]
theorem ec7_1_1_1_0_1_0_0 {ρ : Type} (k : K ρ) (T : Rg) (s : St) : denK tab W V 29 c7_1_1_1_0_1_0_0 k T s =
  bindR (mv (T 4)) fun v0 =>
  bindR (mv (T 3)) fun v1 =>
  bindR (g1 (lenV tab 24 v1)) fun v2 =>
  bindR (g1 (Dt.binOp tab .lss 3 v0 v2 false)) fun v3 =>
  condR v3
  (bindR (.ok (T 3)) fun v4 =>
  bindR (.ok (T 4)) fun v5 =>
  bindR (indexAddr tab 24 v4 v5) fun v6 =>
  bindR (loadV tab s 68 v6) fun v7 => bif (sameR (loadV tab s 68 v6) v7 && true) then
  bif ([(AV.func (.func 21) [] []), v7].all fun x => bndA s.n x) then bindR (g2 s (W 21 [v7] s)) fun q8 => retK q8 (fun v9 s10 =>
  bif Nat.ble s.n s10.n then bindR (fieldAddr tab 29 (T 1) 3) fun v11 =>
  bindR (loadV tab s10 24 v11) fun v12 => bif (sameR (loadV tab s10 24 v11) v12 && (sameR (loadV tab s 24 v11) v12 && true)) then
  bindR (buildSliceA tab 24 1 [(0, v9)] s10.n) fun q13 => bif bndO (s10.n + 1) q13.2 then
  bif ([v12, q13.1].all fun x => bndA (s10.push q13.2).n x) then bindR (g4 (s10.push q13.2) (appendV tab (s10.push q13.2) 24 24 v12 q13.1)) fun q14 =>
  bif Nat.ble (s10.push q13.2).n q14.2.n then bindR (fieldAddr tab 29 (T 1) 3) fun v15 =>
  bif ([v15, q14.1].all fun x => bndA q14.2.n x) then bindR (g3 q14.2 (storeV tab q14.2 24 v15 q14.1)) fun s16 =>
  bif Nat.ble q14.2.n s16.n then bindR (mv (T 4)) fun v17 =>
  bindR (g1 (Dt.binOp tab .add 3 v17 (intV .i64 1) true)) fun v18 =>
  bindR (mv v18) fun v19 =>
  k.nxt (puts 29 T [(12, v0), (13, v1), (14, v2), (15, v3), (20, v4), (21, v5), (22, v6), (23, v7), (24, v9), (18, v11), (19, v12), (25, q13.1), (26, q14.1), (27, v15), (16, v17), (17, v18), (4, v19)]) s16 else .error "draw n" else .error "draw ids" else .error "draw n" else .error "draw ids" else .error "draw object" else .error "unstable read" else .error "draw n") (fun _ _ => .error "panic in a drawn region") else .error "draw ids" else .error "unstable read")
  (k.exit 0 (puts 29 T [(12, v0), (13, v1), (14, v2), (15, v3)]) s) := by kernel_rfl
theorem ec7_1_1_1_1 {ρ : Type} (k : K ρ) (T : Rg) (s : St) : denK tab W V 29 c7_1_1_1_1 k T s =
  bindR (g1 (loadV tab s 29 (T 1))) fun v0 =>
  bindR (g3 s (storeV tab s 29 (T 2) v0)) fun s1 =>
  k.ret (puts 29 T [(28, v0)]) s1 := by kernel_rfl
theorem ec7 {ρ : Type} (k : K ρ) (a0 : AV) (s : St) : denK tab W V 29 c7 k (argE [a0]) s =
  bindR (boxA tab 29 a0 s.n) fun q0 =>
  bindR (allocA tab 29 (s.push q0.2).n) fun q1 =>
  bindR (g1 (fieldAddr tab 29 q0.1 3)) fun v2 =>
  bindR (g1 (loadV tab ((s.push q0.2).push q1.2) 24 v2)) fun v3 =>
  bindR (mv v3) fun v4 =>
  bindR (g1 (fieldAddr tab 29 q0.1 4)) fun v5 =>
  bindR (g1 (loadV tab ((s.push q0.2).push q1.2) 27 v5)) fun v6 =>
  bindR (g2 ((s.push q0.2).push q1.2) (W 20 [v6] ((s.push q0.2).push q1.2))) fun q7 => retK q7 (fun v8 s9 =>
  bindR (g1 (fieldAddr tab 29 q0.1 3)) fun v10 =>
  bindR (g3 s9 (storeV tab s9 24 v10 (AV.base (.slice none 0 0)))) fun s11 =>
  bindR (g1 (fieldAddr tab 29 q0.1 4)) fun v12 =>
  bindR (g3 s11 (storeV tab s11 27 v12 v8)) fun s13 =>
  bindR (mv (intV .i64 0)) fun v14 =>
  bindR (loopLim (dd tab W V 29 c7_1_1_1_0_1_0_0) (puts 29 (argE [a0]) [(1, q0.1), (2, q1.1), (5, v2), (6, v3), (3, v4), (7, v5), (8, v6), (9, v8), (10, v10), (11, v12), (4, v14)]) s13) (K.app (kblk 0 (kseq (denK tab W V 29 c7_1_1_1_1 k) k)))) k.pan := by kernel_rfl
theorem w7 {args : List AV} {s : St} {r : AEnd × St} (hl : args.length ≤ 29) (h : denK tab W V 29 c7 (kRet tab [.cell 2 29]) (argE args) s = .ok r) : W 7 args s = .ok r :=
  callW_of (fn := Tryz.f7) (by kernel_rfl) (by kernel_rfl) (by kernel_rfl) (by kernel_rfl) (by kernel_rfl) hl h
/- partywall/tenant.Drop -/
noncomputable def c8 : Code := bodyC tab 8
noncomputable def c8_1 : Code := subC (bodyC tab 8) [1]
theorem ec8_1 {ρ : Type} (k : K ρ) (T : Rg) (s : St) : denK tab W V 49 c8_1 k T s =
  bindR (g1 (loadV tab s 33 (T 4))) fun v0 =>
  bindR (g1 (loadV tab s 41 (T 5))) fun v1 =>
  bindR (g1 (loadV tab s 29 (T 6))) fun v2 =>
  bindR (g2 s (W 22 [v0, v1, v2] s)) fun q3 => retK q3 (fun v4 s5 =>
  bindR (mv v4) fun v6 =>
  bindR (mv v6) fun v7 =>
  bindR (g1 (Dt.binOp tab .neq 37 v7 (intV .i64 0) true)) fun v8 =>
  condR v8
  (bindR (g1 (Dt.build tab 29 [])) fun v9 =>
  bindR (mv v6) fun v10 =>
  bindR (g3 s5 (storeV tab s5 29 (T 8) v9)) fun s11 =>
  bindR (mv v10) fun v12 =>
  k.ret (puts 49 T [(14, v0), (15, v1), (16, v2), (17, v4), (10, v6), (18, v7), (19, v8), (20, v9), (21, v10), (9, v12)]) s11)
  (bindR (g1 (loadV tab s5 29 (T 6))) fun v13 =>
  bindR (mv (T 3)) fun v14 =>
  bindR (g2 s5 (W 10 [v13, v14] s5)) fun q15 => retK q15 (fun v16 s17 =>
  bindR (mv v16) fun v18 =>
  bindR (g1 (extractV v18 0)) fun v19 =>
  bindR (g1 (extractV v18 1)) fun v20 =>
  bindR (mv v19) fun v21 =>
  bindR (mv v20) fun v22 =>
  bindR (mv v22) fun v23 =>
  bindR (g1 (Dt.binOp tab .neq 37 v23 (intV .i64 0) true)) fun v24 =>
  condR v24
  (bindR (g1 (Dt.build tab 29 [])) fun v25 =>
  bindR (mv v22) fun v26 =>
  bindR (g3 s17 (storeV tab s17 29 (T 8) v25)) fun s27 =>
  bindR (mv v26) fun v28 =>
  k.ret (puts 49 T [(14, v0), (15, v1), (16, v2), (17, v4), (10, v6), (18, v7), (19, v8), (23, v13), (24, v14), (25, v16), (22, v18), (26, v19), (27, v20), (11, v21), (12, v22), (28, v23), (29, v24), (30, v25), (31, v26), (9, v28)]) s27)
  (bindR (g1 (loadV tab s17 29 (T 6))) fun v29 =>
  bindR (g2 s17 (W 23 [v29] s17)) fun q30 => retK q30 (fun v31 s32 =>
  bindR (mv v31) fun v33 =>
  bindR (mv v33) fun v34 =>
  bindR (mv v33) fun v35 =>
  bindR (g1 (nilCheckV v35)) fun v36 =>
  bindR (g1 (fieldAddr tab 94 v36 0)) fun v37 =>
  bindR (g1 (fieldAddr tab 29 v37 3)) fun v38 =>
  bindR (g1 (loadV tab s32 24 v38)) fun v39 =>
  bindR (mv v21) fun v40 =>
  bindR (g2 s32 (W 24 [v39, v40, (AV.base (.slice none 0 0))] s32)) fun q41 => retK q41 (fun v42 s43 =>
  bindR (g1 (nilCheckV v34)) fun v44 =>
  bindR (g1 (fieldAddr tab 94 v44 0)) fun v45 =>
  bindR (g1 (fieldAddr tab 29 v45 3)) fun v46 =>
  bindR (g3 s43 (storeV tab s43 24 v46 v42)) fun s47 =>
  bindR (mv v33) fun v48 =>
  bindR (g1 (nilCheckV v48)) fun v49 =>
  bindR (g1 (fieldAddr tab 94 v49 0)) fun v50 =>
  bindR (g1 (loadV tab s47 29 v50)) fun v51 =>
  bindR (g3 s47 (storeV tab s47 29 (T 8) v51)) fun s52 =>
  bindR (mv (intV .i64 0)) fun v53 =>
  k.ret (puts 49 T [(14, v0), (15, v1), (16, v2), (17, v4), (10, v6), (18, v7), (19, v8), (23, v13), (24, v14), (25, v16), (22, v18), (26, v19), (27, v20), (11, v21), (12, v22), (28, v23), (29, v24), (32, v29), (33, v31), (13, v33), (34, v34), (35, v35), (36, v36), (37, v37), (38, v38), (39, v39), (40, v40), (41, v42), (42, v44), (43, v45), (44, v46), (45, v48), (46, v49), (47, v50), (48, v51), (9, v53)]) s52) k.pan) k.pan)) k.pan)) k.pan := by kernel_rfl
theorem ec8 {ρ : Type} (k : K ρ) (a0 a1 a2 a3 : AV) (s : St) : denK tab W V 49 c8 k (argE [a0, a1, a2, a3]) s =
  bindR (boxA tab 33 a0 s.n) fun q0 =>
  bindR (boxA tab 41 a1 (s.push q0.2).n) fun q1 =>
  bindR (boxA tab 29 a2 ((s.push q0.2).push q1.2).n) fun q2 =>
  bindR (allocA tab 29 (((s.push q0.2).push q1.2).push q2.2).n) fun q3 =>
  bindR (mv (intV .i64 0)) fun v4 =>
  denK tab W V 49 c8_1 k (puts 49 (argE [a0, a1, a2, a3]) [(4, q0.1), (5, q1.1), (6, q2.1), (8, q3.1), (9, v4)]) ((((s.push q0.2).push q1.2).push q2.2).push q3.2) := by kernel_rfl
theorem w8 {args : List AV} {s : St} {r : AEnd × St} (hl : args.length ≤ 49) (h : denK tab W V 49 c8 (kRet tab [.cell 8 29, .tmp 9]) (argE args) s = .ok r) : W 8 args s = .ok r :=
  callW_of (fn := Tryz.f8) (by kernel_rfl) (by kernel_rfl) (by kernel_rfl) (by kernel_rfl) (by kernel_rfl) hl h
/- partywall/tenant.Find -/
noncomputable def c10 : Code := bodyC tab 10
theorem ec10 {ρ : Type} (k : K ρ) (a0 a1 : AV) (s : St) : denK tab W V 14 c10 k (argE [a0, a1]) s =
  bindR (boxA tab 29 a0 s.n) fun q0 =>
  bindR (boxA tab 3 a1 (s.push q0.2).n) fun q1 =>
  bindR (mv (intV .i64 0)) fun v2 =>
  bindR (mv (intV .i64 0)) fun v3 =>
  bindR (g1 (fieldAddr tab 29 q0.1 3)) fun v4 =>
  bindR (g1 (loadV tab ((s.push q0.2).push q1.2) 24 v4)) fun v5 =>
  bindR (mv (AV.func (.func 26) [] [q1.1])) fun v6 =>
  bindR (g2 ((s.push q0.2).push q1.2) (W 25 [v5, v6] ((s.push q0.2).push q1.2))) fun q7 => retK q7 (fun v8 s9 =>
  bindR (mv v8) fun v10 =>
  bindR (mv v10) fun v11 =>
  bindR (g1 (Dt.binOp tab .lss 3 v11 (intV .i64 0) true)) fun v12 =>
  condR v12
  (bindR (mv (intV .i64 0)) fun v13 =>
  bindR (mv (intV .i64 7)) fun v14 =>
  k.ret (puts 14 (argE [a0, a1]) [(2, q0.1), (3, q1.1), (4, v2), (5, v3), (7, v4), (8, v5), (9, v6), (10, v8), (6, v10), (11, v11), (12, v12), (4, v13), (5, v14)]) s9)
  (bindR (mv v10) fun v15 =>
  bindR (mv v15) fun v16 =>
  bindR (mv (intV .i64 0)) fun v17 =>
  k.ret (puts 14 (argE [a0, a1]) [(2, q0.1), (3, q1.1), (4, v2), (5, v3), (7, v4), (8, v5), (9, v6), (10, v8), (6, v10), (11, v11), (12, v12), (13, v15), (4, v16), (5, v17)]) s9)) k.pan := by kernel_rfl
theorem w10 {args : List AV} {s : St} {r : AEnd × St} (hl : args.length ≤ 14) (h : denK tab W V 14 c10 (kRet tab [.tmp 4, .tmp 5]) (argE args) s = .ok r) : W 10 args s = .ok r :=
  callW_of (fn := Tryz.f10) (by kernel_rfl) (by kernel_rfl) (by kernel_rfl) (by kernel_rfl) (by kernel_rfl) hl h
theorem r10 (T : Rg) (s : St) : (kRet tab [.tmp 4, .tmp 5]).ret T s = .ok (.ret (AV.tuple [T 4, T 5]), s) := eqBy rfl
/- partywall/tenant.Add -/
noncomputable def c12 : Code := bodyC tab 12
noncomputable def c12_0 : Code := subC (bodyC tab 12) [0]
noncomputable def c12_1_0 : Code := subC (bodyC tab 12) [1, 0]
noncomputable def c12_1_1_0 : Code := subC (bodyC tab 12) [1, 1, 0]
noncomputable def c12_1_1_1_1 : Code := subC (bodyC tab 12) [1, 1, 1, 1]
noncomputable def c12_1_1_1_1_1 : Code := subC (bodyC tab 12) [1, 1, 1, 1, 1]
noncomputable def c12_1_1_1_1_1_1 : Code := subC (bodyC tab 12) [1, 1, 1, 1, 1, 1]
noncomputable def c12_1_1_1_1_1_1_1 : Code := subC (bodyC tab 12) [1, 1, 1, 1, 1, 1, 1]
noncomputable def c12_1_1_1_1_1_1_1_0_1_0_0 : Code := subC (bodyC tab 12) [1, 1, 1, 1, 1, 1, 1, 0, 1, 0, 0]
noncomputable def c12_1_1_1_1_1_1_1_1 : Code := subC (bodyC tab 12) [1, 1, 1, 1, 1, 1, 1, 1]
noncomputable def c12_1_1_1_1_1_1_1_1_1 : Code := subC (bodyC tab 12) [1, 1, 1, 1, 1, 1, 1, 1, 1]
noncomputable def c12_1_1_1_1_1_1_1_1_1_1 : Code := subC (bodyC tab 12) [1, 1, 1, 1, 1, 1, 1, 1, 1, 1]
theorem ec12_0 {ρ : Type} (k : K ρ) (T : Rg) (s : St) : denK tab W V 103 c12_0 k T s =
  bindR (boxA tab 33 (T 0) s.n) fun q0 =>
  bindR (boxA tab 41 (T 1) (s.push q0.2).n) fun q1 =>
  bindR (boxA tab 29 (T 2) ((s.push q0.2).push q1.2).n) fun q2 =>
  bindR (allocA tab 29 (((s.push q0.2).push q1.2).push q2.2).n) fun q3 =>
  bindR (allocA tab 3 ((((s.push q0.2).push q1.2).push q2.2).push q3.2).n) fun q4 =>
  bindR (allocA tab 70 (((((s.push q0.2).push q1.2).push q2.2).push q3.2).push q4.2).n) fun q5 =>
  k.nxt (puts 103 T [(4, q0.1), (5, q1.1), (6, q2.1), (8, q3.1), (9, q4.1), (10, q5.1)]) ((((((s.push q0.2).push q1.2).push q2.2).push q3.2).push q4.2).push q5.2) := by kernel_rfl
theorem ec12_1_0 {ρ : Type} (k : K ρ) (T : Rg) (s : St) : denK tab W V 103 c12_1_0 k T s =
  bindR (allocA tab 55 s.n) fun q0 =>
  k.nxt (puts 103 T [(11, q0.1)]) (s.push q0.2) := by kernel_rfl
theorem ec12_1_1_0 {ρ : Type} (k : K ρ) (T : Rg) (s : St) : denK tab W V 103 c12_1_1_0 k T s =
  bindR (allocA tab 37 s.n) fun q0 =>
  k.nxt (puts 103 T [(12, q0.1)]) (s.push q0.2) := by kernel_rfl
theorem ec12_1_1_1_1 {ρ : Type} (k : K ρ) (T : Rg) (s : St) : denK tab W V 103 c12_1_1_1_1 k T s =
  bindR (g1 (loadV tab s 33 (T 4))) fun v0 =>
  bindR (g1 (loadV tab s 41 (T 5))) fun v1 =>
  bindR (g1 (loadV tab s 29 (T 6))) fun v2 =>
  bindR (g2 s (W 22 [v0, v1, v2] s)) fun q3 => retK q3 (fun v4 s5 =>
  bindR (g3 s5 (storeV tab s5 37 (T 12) v4)) fun s6 =>
  bindR (g1 (loadV tab s6 37 (T 12))) fun v7 =>
  bindR (g1 (Dt.binOp tab .neq 37 v7 (intV .i64 0) true)) fun v8 =>
  condR v8
  (k.ret (puts 103 T [(19, v0), (20, v1), (21, v2), (22, v4), (23, v7), (24, v8)]) s6)
  (denK tab W V 103 c12_1_1_1_1_1 k (puts 103 T [(19, v0), (20, v1), (21, v2), (22, v4), (23, v7), (24, v8)]) s6)) k.pan := by kernel_rfl
theorem ec12_1_1_1_1_1 {ρ : Type} (k : K ρ) (T : Rg) (s : St) : denK tab W V 103 c12_1_1_1_1_1 k T s =
  bindR (g1 (fieldAddr tab 29 (T 6) 3)) fun v0 =>
  bindR (g1 (loadV tab s 24 v0)) fun v1 =>
  bindR (g1 (lenV tab 24 v1)) fun v2 =>
  bindR (g1 (fieldAddr tab 41 (T 5) 1)) fun v3 =>
  bindR (g1 (loadV tab s 3 v3)) fun v4 =>
  bindR (g1 (Dt.binOp tab .geq 3 v2 v4 false)) fun v5 =>
  condR v5
  (bindR (g3 s (storeV tab s 37 (T 12) (intV .i64 15))) fun s6 =>
  k.ret (puts 103 T [(25, v0), (26, v1), (27, v2), (28, v3), (29, v4), (30, v5)]) s6)
  (denK tab W V 103 c12_1_1_1_1_1_1 k (puts 103 T [(25, v0), (26, v1), (27, v2), (28, v3), (29, v4), (30, v5)]) s) := by kernel_rfl
theorem ec12_1_1_1_1_1_1 {ρ : Type} (k : K ρ) (T : Rg) (s : St) : denK tab W V 103 c12_1_1_1_1_1_1 k T s =
  bindR (mv (T 3)) fun v0 =>
  bindR (g2 s (W 31 [v0] s)) fun q1 => retK q1 (fun v2 s3 =>
  bindR (mv v2) fun v4 =>
  bindR (g1 (extractV v4 0)) fun v5 =>
  bindR (g1 (extractV v4 1)) fun v6 =>
  bindR (g3 s3 (storeV tab s3 55 (T 11) v5)) fun s7 =>
  bindR (g3 s7 (storeV tab s7 70 (T 10) v6)) fun s8 =>
  bindR (g1 (fieldAddr tab 70 (T 10) 0)) fun v9 =>
  bindR (g1 (loadV tab s8 37 v9)) fun v10 =>
  bindR (g1 (Dt.binOp tab .neq 37 v10 (intV .i64 0) true)) fun v11 =>
  condR v11
  (k.ret (puts 103 T [(32, v0), (33, v2), (31, v4), (34, v5), (35, v6), (36, v9), (37, v10), (38, v11)]) s8)
  (denK tab W V 103 c12_1_1_1_1_1_1_1 k (puts 103 T [(32, v0), (33, v2), (31, v4), (34, v5), (35, v6), (36, v9), (37, v10), (38, v11)]) s8)) k.pan := by kernel_rfl
theorem ec12_1_1_1_1_1_1_1 {ρ : Type} (k : K ρ) (T : Rg) (s : St) : denK tab W V 103 c12_1_1_1_1_1_1_1 k T s =
  bindR (mv (AV.func (.func 32) [] [(T 11)])) fun v0 =>
  bindR (mv (AV.func (.func 34) [] [(T 11)])) fun v1 =>
  bindR (mv (AV.func (.func 36) [] [(T 11), (T 6)])) fun v2 =>
  bindR (g1 (Dt.build tab 114 [(0, v0), (1, v1), (2, v2)])) fun v3 =>
  bindR (mv (intV .i64 0)) fun v4 =>
  bindR (loopLim (dd tab W V 103 c12_1_1_1_1_1_1_1_0_1_0_0) (puts 103 T [(39, v0), (40, v1), (41, v2), (42, v3), (43, v4)]) s) (K.app (kblk 0 (kseq (denK tab W V 103 c12_1_1_1_1_1_1_1_1 k) k))) := by kernel_rfl
theorem ec12_1_1_1_1_1_1_1_0_1_0_0 {ρ : Type} (k : K ρ) (T : Rg) (s : St) : denK tab W V 103 c12_1_1_1_1_1_1_1_0_1_0_0 k T s =
  bindR (g1 (Dt.binOp tab .lss 3 (T 43) (intV .i64 3) true)) fun v0 =>
  condR v0
  (bindR (g1 (indexV tab 114 (T 42) (T 43))) fun v1 =>
  bindR (mv v1) fun v2 =>
  bindR (mv v2) fun v3 =>
  bindR (g2 s (callG tab W V v3 [] s)) fun q4 => retK q4 (fun v5 s6 =>
  bindR (g3 s6 (storeV tab s6 37 (T 12) v5)) fun s7 =>
  bindR (g1 (loadV tab s7 37 (T 12))) fun v8 =>
  bindR (g1 (Dt.binOp tab .neq 37 v8 (intV .i64 0) true)) fun v9 =>
  condR v9
  (k.ret (puts 103 T [(44, v0), (45, v1), (14, v2), (46, v3), (47, v5), (48, v8), (49, v9)]) s7)
  (bindR (g1 (Dt.binOp tab .add 3 (T 43) (intV .i64 1) true)) fun v10 =>
  bindR (mv v10) fun v11 =>
  k.nxt (puts 103 T [(44, v0), (45, v1), (14, v2), (46, v3), (47, v5), (48, v8), (49, v9), (50, v10), (43, v11)]) s7)) k.pan)
  (k.exit 0 (puts 103 T [(44, v0)]) s) := by kernel_rfl
theorem ec12_1_1_1_1_1_1_1_1 {ρ : Type} (k : K ρ) (T : Rg) (s : St) : denK tab W V 103 c12_1_1_1_1_1_1_1_1 k T s =
  bindR (g1 (fieldAddr tab 29 (T 6) 2)) fun v0 =>
  bindR (g1 (loadV tab s 3 v0)) fun v1 =>
  bindR (g1 (Dt.binOp tab .geq 3 v1 (intV .i64 1099511627776) true)) fun v2 =>
  condR v2
  (bindR (g3 s (storeV tab s 37 (T 12) (intV .i64 6))) fun s3 =>
  k.ret (puts 103 T [(51, v0), (52, v1), (53, v2)]) s3)
  (denK tab W V 103 c12_1_1_1_1_1_1_1_1_1 k (puts 103 T [(51, v0), (52, v1), (53, v2)]) s) := by kernel_rfl
theorem ec12_1_1_1_1_1_1_1_1_1 {ρ : Type} (k : K ρ) (T : Rg) (s : St) : denK tab W V 103 c12_1_1_1_1_1_1_1_1_1 k T s =
  bindR (g1 (loadV tab s 33 (T 4))) fun v0 =>
  bindR (g1 (fieldAddr tab 29 (T 6) 2)) fun v1 =>
  bindR (g1 (loadV tab s 3 v1)) fun v2 =>
  bindR (g1 (Dt.binOp tab .add 3 v2 (intV .i64 1) true)) fun v3 =>
  bindR (g1 (loadV tab s 55 (T 11))) fun v4 =>
  bindR (g1 (fieldAddr tab 29 (T 6) 1)) fun v5 =>
  bindR (g1 (loadV tab s 23 v5)) fun v6 =>
  bindR (g1 (fieldAddr tab 41 (T 5) 2)) fun v7 =>
  bindR (g1 (loadV tab s 3 v7)) fun v8 =>
  bindR (g2 s (W 38 [v0, v3, v4, v6, v8] s)) fun q9 => retK q9 (fun v10 s11 =>
  bindR (mv v10) fun v12 =>
  bindR (g1 (extractV v12 0)) fun v13 =>
  bindR (g1 (extractV v12 1)) fun v14 =>
  bindR (allocA tab 68 s11.n) fun q15 =>
  bindR (g3 (s11.push q15.2) (storeV tab (s11.push q15.2) 68 q15.1 v13)) fun s16 =>
  bindR (mv v14) fun v17 =>
  denK tab W V 103 c12_1_1_1_1_1_1_1_1_1_1 k (puts 103 T [(55, v0), (56, v1), (57, v2), (58, v3), (59, v4), (60, v5), (61, v6), (62, v7), (63, v8), (64, v10), (54, v12), (65, v13), (66, v14), (15, q15.1), (16, v17)]) s16) k.pan := by kernel_rfl
theorem ec12_1_1_1_1_1_1_1_1_1_1 {ρ : Type} (k : K ρ) (T : Rg) (s : St) : denK tab W V 103 c12_1_1_1_1_1_1_1_1_1_1 k T s =
  bindR (mv (T 16)) fun v0 =>
  bindR (g3 s (storeV tab s 37 (T 12) v0)) fun s1 =>
  bindR (g1 (loadV tab s1 37 (T 12))) fun v2 =>
  bindR (g1 (Dt.binOp tab .neq 37 v2 (intV .i64 0) true)) fun v3 =>
  condR v3
  (k.ret (puts 103 T [(67, v0), (68, v2), (69, v3)]) s1)
  (bindR (g1 (loadV tab s1 29 (T 6))) fun v4 =>
  bindR (g2 s1 (W 23 [v4] s1)) fun q5 => retK q5 (fun v6 s7 =>
  bindR (mv v6) fun v8 =>
  bindR (mv v8) fun v9 =>
  bindR (g1 (nilCheckV v9)) fun v10 =>
  bindR (g1 (fieldAddr tab 94 v10 0)) fun v11 =>
  bindR (g1 (fieldAddr tab 29 v11 2)) fun v12 =>
  bindR (g1 (loadV tab s7 3 v12)) fun v13 =>
  bindR (g1 (Dt.binOp tab .add 3 v13 (intV .i64 1) true)) fun v14 =>
  bindR (g1 (nilCheckV v9)) fun v15 =>
  bindR (g1 (fieldAddr tab 94 v15 0)) fun v16 =>
  bindR (g1 (fieldAddr tab 29 v16 2)) fun v17 =>
  bindR (g3 s7 (storeV tab s7 3 v17 v14)) fun s18 =>
  bindR (.ok v8) fun v19 =>
  bindR (nilCheckV v19) fun v20 =>
  bindR (fieldAddr tab 94 v20 0) fun v21 =>
  bindR (fieldAddr tab 29 v21 3) fun v22 =>
  bindR (loadV tab s18 24 v22) fun v23 => bif (sameR (loadV tab s18 24 v22) v23 && true) then
  bindR (loadV tab s18 68 (T 15)) fun v24 => bif (sameR (loadV tab s18 68 (T 15)) v24 && true) then
  bindR (buildSliceA tab 24 1 [(0, v24)] s18.n) fun q25 => bif bndO (s18.n + 1) q25.2 then
  bif ([v23, q25.1].all fun x => bndA (s18.push q25.2).n x) then bindR (g4 (s18.push q25.2) (appendV tab (s18.push q25.2) 24 24 v23 q25.1)) fun q26 =>
  bif Nat.ble (s18.push q25.2).n q26.2.n then bindR (.ok v8) fun v27 =>
  bindR (nilCheckV v27) fun v28 =>
  bindR (fieldAddr tab 94 v28 0) fun v29 =>
  bindR (fieldAddr tab 29 v29 3) fun v30 =>
  bif ([v30, q26.1].all fun x => bndA q26.2.n x) then bindR (g3 q26.2 (storeV tab q26.2 24 v30 q26.1)) fun s31 =>
  bif Nat.ble q26.2.n s31.n then bindR (.ok v8) fun v32 =>
  bindR (nilCheckV v32) fun v33 =>
  bindR (fieldAddr tab 94 v33 0) fun v34 =>
  bindR (loadV tab s31 29 v34) fun v35 => bif (sameR (loadV tab s31 29 v34) v35 && true) then
  bif ([(T 8), v35].all fun x => bndA s31.n x) then bindR (g3 s31 (storeV tab s31 29 (T 8) v35)) fun s36 =>
  bif Nat.ble s31.n s36.n then bindR (.ok v8) fun v37 =>
  bindR (nilCheckV v37) fun v38 =>
  bindR (fieldAddr tab 94 v38 0) fun v39 =>
  bindR (fieldAddr tab 29 v39 2) fun v40 =>
  bindR (loadV tab s36 3 v40) fun v41 => bif (sameR (loadV tab s36 3 v40) v41 && (sameR (loadV tab s31 3 v40) v41 && true)) then
  bif ([(T 9), v41].all fun x => bndA s36.n x) then bindR (g3 s36 (storeV tab s36 3 (T 9) v41)) fun s42 =>
  bif Nat.ble s36.n s42.n then bindR (Dt.build tab 70 []) fun v43 =>
  bif ([(T 10), v43].all fun x => bndA s42.n x) then bindR (g3 s42 (storeV tab s42 70 (T 10) v43)) fun s44 =>
  bif Nat.ble s42.n s44.n then k.ret (puts 103 T [(67, v0), (68, v2), (69, v3), (70, v4), (71, v6), (17, v8), (72, v9), (73, v10), (74, v11), (75, v12), (76, v13), (77, v14), (78, v15), (79, v16), (80, v17), (82, v19), (83, v20), (84, v21), (85, v22), (86, v23), (87, v24), (88, q25.1), (89, q26.1), (81, v27), (90, v28), (91, v29), (92, v30), (93, v32), (94, v33), (95, v34), (96, v35), (97, v37), (98, v38), (99, v39), (100, v40), (101, v41), (102, v43)]) s44 else .error "draw n" else .error "draw ids" else .error "draw n" else .error "draw ids" else .error "unstable read" else .error "draw n" else .error "draw ids" else .error "unstable read" else .error "draw n" else .error "draw ids" else .error "draw n" else .error "draw ids" else .error "draw object" else .error "unstable read" else .error "unstable read") k.pan) := by kernel_rfl
/- partywall/partywalllaw31.text -/
noncomputable def c13 : Code := bodyC tab 13
theorem ec13 {ρ : Type} (k : K ρ) (a0 : AV) (s : St) : denK tab W V 8 c13 k (argE [a0]) s =
  bindR (mv (str [])) fun v0 =>
  bindR (buildSliceA tab 117 6 [(0, (str [65, 32, 119, 105, 116, 104, 105, 110, 32, 53])), (1, (str [65, 32, 59, 32, 66, 32, 119, 105, 116, 104, 105, 110, 32, 51])), (2, (str [66, 64, 123, 48, 125, 32, 119, 105, 116, 104, 105, 110, 32, 48])), (3, (str [65, 32, 59, 32, 110, 111, 116, 32, 67, 32, 59, 32, 66, 32, 119, 105, 116, 104, 105, 110, 32, 55])), (4, (str [67, 123, 49, 44, 50, 125, 32, 119, 105, 116, 104, 105, 110, 32, 50])), (5, (str [65, 64, 123, 125, 32, 119, 105, 116, 104, 105, 110, 32, 57]))] s.n) fun q1 =>
  bindR (mv a0) fun v2 =>
  bindR (g2 (s.push q1.2) (W 6 [v2, (intV .i64 6)] (s.push q1.2))) fun q3 => retK q3 (fun v4 s5 =>
  bindR (g1 (indexAddr tab 117 q1.1 v4)) fun v6 =>
  bindR (g1 (loadV tab s5 9 v6)) fun v7 =>
  bindR (mv v7) fun v8 =>
  k.ret (puts 8 (argE [a0]) [(2, v0), (3, q1.1), (4, v2), (5, v4), (6, v6), (7, v7), (2, v8)]) s5) k.pan := by kernel_rfl
theorem w13 {args : List AV} {s : St} {r : AEnd × St} (hl : args.length ≤ 8) (h : denK tab W V 8 c13 (kRet tab [.tmp 2]) (argE args) s = .ok r) : W 13 args s = .ok r :=
  callW_of (fn := Tryz.f13) (by kernel_rfl) (by kernel_rfl) (by kernel_rfl) (by kernel_rfl) (by kernel_rfl) hl h
theorem r13 (T : Rg) (s : St) : (kRet tab [.tmp 2]).ret T s = .ok (.ret (T 2), s) := eqBy rfl
/- partywall/tenant.Check -/
noncomputable def c14 : Code := bodyC tab 14
noncomputable def c14_1 : Code := subC (bodyC tab 14) [1]
noncomputable def c14_1_1_1 : Code := subC (bodyC tab 14) [1, 1, 1]
noncomputable def c14_1_1_1_1 : Code := subC (bodyC tab 14) [1, 1, 1, 1]
noncomputable def c14_1_1_1_1_0_0_1_1_1 : Code := subC (bodyC tab 14) [1, 1, 1, 1, 0, 0, 1, 1, 1]
noncomputable def c14_1_1_1_1_1 : Code := subC (bodyC tab 14) [1, 1, 1, 1, 1]
theorem ec14_1 {ρ : Type} (k : K ρ) (T : Rg) (s : St) : denK tab W V 83 c14_1 k T s =
  bindR (g1 (loadV tab s 33 (T 3))) fun v0 =>
  bindR (g2 s (W 39 [v0] s)) fun q1 => retK q1 (fun v2 s3 =>
  bindR (mv v2) fun v4 =>
  bindR (mv v4) fun v5 =>
  bindR (g1 (Dt.binOp tab .eql 37 v5 (intV .i64 0) true)) fun v6 =>
  condR v6
  (bindR (g1 (loadV tab s3 41 (T 4))) fun v7 =>
  bindR (g2 s3 (W 40 [v7] s3)) fun q8 => retK q8 (fun v9 s10 =>
  bindR (mv v9) fun v11 =>
  denK tab W V 83 c14_1_1_1 k (puts 83 T [(8, v0), (9, v2), (7, v4), (10, v5), (11, v6), (12, v7), (13, v9), (7, v11)]) s10) k.pan)
  (denK tab W V 83 c14_1_1_1 k (puts 83 T [(8, v0), (9, v2), (7, v4), (10, v5), (11, v6)]) s3)) k.pan := by kernel_rfl
theorem ec14_1_1_1 {ρ : Type} (k : K ρ) (T : Rg) (s : St) : denK tab W V 83 c14_1_1_1 k T s =
  bindR (mv (T 7)) fun v0 =>
  bindR (g1 (Dt.binOp tab .eql 37 v0 (intV .i64 0) true)) fun v1 =>
  condR v1
  (bindR (g1 (fieldAddr tab 29 (T 5) 4)) fun v2 =>
  bindR (g1 (loadV tab s 27 v2)) fun v3 =>
  bindR (g2 s (W 41 [v3] s)) fun q4 => retK q4 (fun v5 s6 =>
  bindR (mv v5) fun v7 =>
  denK tab W V 83 c14_1_1_1_1 k (puts 83 T [(14, v0), (15, v1), (16, v2), (17, v3), (18, v5), (7, v7)]) s6) k.pan)
  (denK tab W V 83 c14_1_1_1_1 k (puts 83 T [(14, v0), (15, v1)]) s) := by kernel_rfl
theorem ec14_1_1_1_1 {ρ : Type} (k : K ρ) (T : Rg) (s : St) : denK tab W V 83 c14_1_1_1_1 k T s =
  bindR (mv (T 7)) fun v0 =>
  bindR (g1 (Dt.binOp tab .neq 37 v0 (intV .i64 0) true)) fun v1 =>
  bindR (mv v1) fun v2 =>
  condR v2
  (bindR (mv (T 7)) fun v3 =>
  bindR (mv v3) fun v4 =>
  k.ret (puts 83 T [(20, v0), (21, v1), (19, v2), (22, v3), (6, v4)]) s)
  (bindR (g1 (fieldAddr tab 29 (T 5) 4)) fun v5 =>
  bindR (g1 (fieldAddr tab 27 v5 0)) fun v6 =>
  bindR (g1 (loadV tab s 3 v6)) fun v7 =>
  bindR (g1 (fieldAddr tab 41 (T 4) 3)) fun v8 =>
  bindR (g1 (loadV tab s 3 v8)) fun v9 =>
  bindR (g1 (Dt.binOp tab .neq 3 v7 v9 false)) fun v10 =>
  bindR (mv v10) fun v11 =>
  denK tab W V 83 c14_1_1_1_1_0_0_1_1_1 (kblk 0 (kseq (denK tab W V 83 c14_1_1_1_1_1 k) k)) (puts 83 T [(20, v0), (21, v1), (19, v2), (24, v5), (25, v6), (26, v7), (27, v8), (28, v9), (29, v10), (23, v11)]) s) := by kernel_rfl
theorem ec14_1_1_1_1_0_0_1_1_1 {ρ : Type} (k : K ρ) (T : Rg) (s : St) : denK tab W V 83 c14_1_1_1_1_0_0_1_1_1 k T s =
  condR (T 23)
  (bindR (mv (intV .i64 3)) fun v0 =>
  k.ret (puts 83 T [(6, v0)]) s)
  (bindR (g1 (fieldAddr tab 29 (T 5) 0)) fun v1 =>
  bindR (g1 (loadV tab s 4 v1)) fun v2 =>
  bindR (g1 (Dt.unOp .not v2)) fun v3 =>
  bindR (mv v3) fun v4 =>
  bindR (bif isBoolV v4 true then fieldAddr tab 29 (T 5) 1 else .ok AV.undef) fun v5 =>
  bindR (bif isBoolV v4 true then loadV tab s 23 v5 else .ok AV.undef) fun v6 =>
  bindR (bif isBoolV v4 true then Dt.binOp tab .neq 23 v6 (intV .u64 0) true else .ok AV.undef) fun v7 =>
  bindR (bif isBoolV v4 true then .ok v7 else .ok AV.undef) fun v8 =>
  bindR (bif isBoolV v8 false then fieldAddr tab 29 (T 5) 2 else .ok AV.undef) fun v9 =>
  bindR (bif isBoolV v8 false then loadV tab s 3 v9 else .ok AV.undef) fun v10 =>
  bindR (bif isBoolV v8 false then Dt.binOp tab .neq 3 v10 (intV .i64 0) true else .ok AV.undef) fun v11 =>
  bindR (bif isBoolV v4 true then pickV v8 (boolV true) v11 else .ok AV.undef) fun v12 =>
  bindR (bif isBoolV v4 true then .ok v12 else .ok AV.undef) fun v13 =>
  bindR (bif isBoolV v13 false then fieldAddr tab 29 (T 5) 3 else .ok AV.undef) fun v14 =>
  bindR (bif isBoolV v13 false then loadV tab s 24 v14 else .ok AV.undef) fun v15 =>
  bindR (bif isBoolV v13 false then lenV tab 24 v15 else .ok AV.undef) fun v16 =>
  bindR (bif isBoolV v13 false then Dt.binOp tab .gtr 3 v16 (intV .i64 0) true else .ok AV.undef) fun v17 =>
  bindR (bif isBoolV v4 true then pickV v13 (boolV true) v17 else .ok AV.undef) fun v18 =>
  bindR (bif isBoolV v4 true then .ok v18 else .ok AV.undef) fun v19 =>
  bindR (bif isBoolV v19 false then fieldAddr tab 29 (T 5) 4 else .ok AV.undef) fun v20 =>
  bindR (bif isBoolV v19 false then fieldAddr tab 27 v20 1 else .ok AV.undef) fun v21 =>
  bindR (bif isBoolV v19 false then loadV tab s 25 v21 else .ok AV.undef) fun v22 =>
  bindR (bif isBoolV v19 false then lenV tab 25 v22 else .ok AV.undef) fun v23 =>
  bindR (bif isBoolV v19 false then Dt.binOp tab .gtr 3 v23 (intV .i64 0) true else .ok AV.undef) fun v24 =>
  bindR (bif isBoolV v4 true then pickV v19 (boolV true) v24 else .ok AV.undef) fun v25 =>
  bindR (bif isBoolV v4 true then .ok v25 else .ok AV.undef) fun v26 =>
  bindR (bif isBoolV v26 false then fieldAddr tab 29 (T 5) 4 else .ok AV.undef) fun v27 =>
  bindR (bif isBoolV v26 false then fieldAddr tab 27 v27 2 else .ok AV.undef) fun v28 =>
  bindR (bif isBoolV v26 false then loadV tab s 3 v28 else .ok AV.undef) fun v29 =>
  bindR (bif isBoolV v26 false then Dt.binOp tab .neq 3 v29 (intV .i64 0) true else .ok AV.undef) fun v30 =>
  bindR (bif isBoolV v4 true then pickV v26 (boolV true) v30 else .ok AV.undef) fun v31 =>
  bindR (g1 (pickV v4 v31 (boolV false))) fun v32 =>
  bindR (mv v32) fun v33 =>
  condR v33
  (bindR (mv (intV .i64 10)) fun v34 =>
  k.ret (puts 83 T [(31, v1), (32, v2), (33, v3), (34, v4), (35, v5), (36, v6), (37, v7), (38, v8), (39, v9), (40, v10), (41, v11), (42, v12), (43, v13), (44, v14), (45, v15), (46, v16), (47, v17), (48, v18), (49, v19), (50, v20), (51, v21), (52, v22), (53, v23), (54, v24), (55, v25), (56, v26), (57, v27), (58, v28), (59, v29), (60, v30), (61, v31), (62, v32), (30, v33), (6, v34)]) s)
  (bindR (g1 (fieldAddr tab 29 (T 5) 2)) fun v35 =>
  bindR (g1 (loadV tab s 3 v35)) fun v36 =>
  bindR (g1 (Dt.binOp tab .lss 3 v36 (intV .i64 0) true)) fun v37 =>
  bindR (mv v37) fun v38 =>
  bindR (bif isBoolV v38 false then fieldAddr tab 29 (T 5) 2 else .ok AV.undef) fun v39 =>
  bindR (bif isBoolV v38 false then loadV tab s 3 v39 else .ok AV.undef) fun v40 =>
  bindR (bif isBoolV v38 false then Dt.binOp tab .gtr 3 v40 (intV .i64 1099511627776) true else .ok AV.undef) fun v41 =>
  bindR (g1 (pickV v38 (boolV true) v41)) fun v42 =>
  bindR (mv v42) fun v43 =>
  condR v43
  (bindR (mv (intV .i64 2)) fun v44 =>
  k.ret (puts 83 T [(31, v1), (32, v2), (33, v3), (34, v4), (35, v5), (36, v6), (37, v7), (38, v8), (39, v9), (40, v10), (41, v11), (42, v12), (43, v13), (44, v14), (45, v15), (46, v16), (47, v17), (48, v18), (49, v19), (50, v20), (51, v21), (52, v22), (53, v23), (54, v24), (55, v25), (56, v26), (57, v27), (58, v28), (59, v29), (60, v30), (61, v31), (62, v32), (30, v33), (64, v35), (65, v36), (66, v37), (67, v38), (68, v39), (69, v40), (70, v41), (71, v42), (63, v43), (6, v44)]) s)
  (bindR (g1 (fieldAddr tab 29 (T 5) 3)) fun v45 =>
  bindR (g1 (loadV tab s 24 v45)) fun v46 =>
  bindR (g1 (lenV tab 24 v46)) fun v47 =>
  bindR (g1 (fieldAddr tab 41 (T 4) 1)) fun v48 =>
  bindR (g1 (loadV tab s 3 v48)) fun v49 =>
  bindR (g1 (Dt.binOp tab .gtr 3 v47 v49 false)) fun v50 =>
  bindR (mv v50) fun v51 =>
  condR v51
  (bindR (mv (intV .i64 6)) fun v52 =>
  k.ret (puts 83 T [(31, v1), (32, v2), (33, v3), (34, v4), (35, v5), (36, v6), (37, v7), (38, v8), (39, v9), (40, v10), (41, v11), (42, v12), (43, v13), (44, v14), (45, v15), (46, v16), (47, v17), (48, v18), (49, v19), (50, v20), (51, v21), (52, v22), (53, v23), (54, v24), (55, v25), (56, v26), (57, v27), (58, v28), (59, v29), (60, v30), (61, v31), (62, v32), (30, v33), (64, v35), (65, v36), (66, v37), (67, v38), (68, v39), (69, v40), (70, v41), (71, v42), (63, v43), (73, v45), (74, v46), (75, v47), (76, v48), (77, v49), (78, v50), (72, v51), (6, v52)]) s)
  (k.nxt (puts 83 T [(31, v1), (32, v2), (33, v3), (34, v4), (35, v5), (36, v6), (37, v7), (38, v8), (39, v9), (40, v10), (41, v11), (42, v12), (43, v13), (44, v14), (45, v15), (46, v16), (47, v17), (48, v18), (49, v19), (50, v20), (51, v21), (52, v22), (53, v23), (54, v24), (55, v25), (56, v26), (57, v27), (58, v28), (59, v29), (60, v30), (61, v31), (62, v32), (30, v33), (64, v35), (65, v36), (66, v37), (67, v38), (68, v39), (69, v40), (70, v41), (71, v42), (63, v43), (73, v45), (74, v46), (75, v47), (76, v48), (77, v49), (78, v50), (72, v51)]) s)))) := by kernel_rfl
theorem ec14_1_1_1_1_1 {ρ : Type} (k : K ρ) (T : Rg) (s : St) : denK tab W V 83 c14_1_1_1_1_1 k T s =
  bindR (g1 (loadV tab s 33 (T 3))) fun v0 =>
  bindR (g1 (loadV tab s 41 (T 4))) fun v1 =>
  bindR (g1 (loadV tab s 29 (T 5))) fun v2 =>
  bindR (g2 s (W 42 [v0, v1, v2] s)) fun q3 => retK q3 (fun v4 s5 =>
  bindR (mv v4) fun v6 =>
  k.ret (puts 83 T [(79, v0), (80, v1), (81, v2), (82, v4), (6, v6)]) s5) k.pan := by kernel_rfl
theorem ec14 {ρ : Type} (k : K ρ) (a0 a1 a2 : AV) (s : St) : denK tab W V 83 c14 k (argE [a0, a1, a2]) s =
  bindR (boxA tab 33 a0 s.n) fun q0 =>
  bindR (boxA tab 41 a1 (s.push q0.2).n) fun q1 =>
  bindR (boxA tab 29 a2 ((s.push q0.2).push q1.2).n) fun q2 =>
  bindR (mv (intV .i64 0)) fun v3 =>
  denK tab W V 83 c14_1 k (puts 83 (argE [a0, a1, a2]) [(3, q0.1), (4, q1.1), (5, q2.1), (6, v3)]) (((s.push q0.2).push q1.2).push q2.2) := by kernel_rfl
theorem w14 {args : List AV} {s : St} {r : AEnd × St} (hl : args.length ≤ 83) (h : denK tab W V 83 c14 (kRet tab [.tmp 6]) (argE args) s = .ok r) : W 14 args s = .ok r :=
  callW_of (fn := Tryz.f14) (by kernel_rfl) (by kernel_rfl) (by kernel_rfl) (by kernel_rfl) (by kernel_rfl) hl h
theorem r14 (T : Rg) (s : St) : (kRet tab [.tmp 6]).ret T s = .ok (.ret (T 6), s) := eqBy rfl
/- partywall/tenant.registered -/
noncomputable def c22 : Code := bodyC tab 22
noncomputable def c22_1_1_1 : Code := subC (bodyC tab 22) [1, 1, 1]
theorem ec22_1_1_1 {ρ : Type} (k : K ρ) (T : Rg) (s : St) : denK tab W V 20 c22_1_1_1 k T s =
  bindR (mv (T 7)) fun v0 =>
  bindR (mv v0) fun v1 =>
  k.ret (puts 20 T [(19, v0), (6, v1)]) s := by kernel_rfl
theorem ec22 {ρ : Type} (k : K ρ) (a0 a1 a2 : AV) (s : St) : denK tab W V 20 c22 k (argE [a0, a1, a2]) s =
  bindR (boxA tab 33 a0 s.n) fun q0 =>
  bindR (boxA tab 41 a1 (s.push q0.2).n) fun q1 =>
  bindR (boxA tab 29 a2 ((s.push q0.2).push q1.2).n) fun q2 =>
  bindR (mv (intV .i64 0)) fun v3 =>
  bindR (g1 (loadV tab (((s.push q0.2).push q1.2).push q2.2) 33 q0.1)) fun v4 =>
  bindR (g1 (loadV tab (((s.push q0.2).push q1.2).push q2.2) 41 q1.1)) fun v5 =>
  bindR (g1 (loadV tab (((s.push q0.2).push q1.2).push q2.2) 29 q2.1)) fun v6 =>
  bindR (g2 (((s.push q0.2).push q1.2).push q2.2) (W 14 [v4, v5, v6] (((s.push q0.2).push q1.2).push q2.2))) fun q7 => retK q7 (fun v8 s9 =>
  bindR (mv v8) fun v10 =>
  bindR (mv v10) fun v11 =>
  bindR (g1 (Dt.binOp tab .eql 37 v11 (intV .i64 0) true)) fun v12 =>
  bindR (mv v12) fun v13 =>
  bindR (bif isBoolV v13 true then fieldAddr tab 29 q2.1 0 else .ok AV.undef) fun v14 =>
  bindR (bif isBoolV v13 true then loadV tab s9 4 v14 else .ok AV.undef) fun v15 =>
  bindR (bif isBoolV v13 true then Dt.unOp .not v15 else .ok AV.undef) fun v16 =>
  bindR (g1 (pickV v13 v16 (boolV false))) fun v17 =>
  condR v17
  (bindR (mv (intV .i64 7)) fun v18 =>
  denK tab W V 20 c22_1_1_1 k (puts 20 (argE [a0, a1, a2]) [(3, q0.1), (4, q1.1), (5, q2.1), (6, v3), (8, v4), (9, v5), (10, v6), (11, v8), (7, v10), (12, v11), (13, v12), (14, v13), (15, v14), (16, v15), (17, v16), (18, v17), (7, v18)]) s9)
  (denK tab W V 20 c22_1_1_1 k (puts 20 (argE [a0, a1, a2]) [(3, q0.1), (4, q1.1), (5, q2.1), (6, v3), (8, v4), (9, v5), (10, v6), (11, v8), (7, v10), (12, v11), (13, v12), (14, v13), (15, v14), (16, v15), (17, v16), (18, v17)]) s9)) k.pan := by kernel_rfl
theorem w22 {args : List AV} {s : St} {r : AEnd × St} (hl : args.length ≤ 20) (h : denK tab W V 20 c22 (kRet tab [.tmp 6]) (argE args) s = .ok r) : W 22 args s = .ok r :=
  callW_of (fn := Tryz.f22) (by kernel_rfl) (by kernel_rfl) (by kernel_rfl) (by kernel_rfl) (by kernel_rfl) hl h
theorem r22 (T : Rg) (s : St) : (kRet tab [.tmp 6]).ret T s = .ok (.ret (T 6), s) := eqBy rfl
/- partywall/tenant.own -/
noncomputable def c23 : Code := bodyC tab 23
noncomputable def c23_1_1 : Code := subC (bodyC tab 23) [1, 1]
noncomputable def c23_1_1_1 : Code := subC (bodyC tab 23) [1, 1, 1]
noncomputable def c23_1_1_1_0_1_0_0 : Code := subC (bodyC tab 23) [1, 1, 1, 0, 1, 0, 0]
noncomputable def c23_1_1_1_1 : Code := subC (bodyC tab 23) [1, 1, 1, 1]
noncomputable def c23_1_1_1_1_1_0_1_0_0 : Code := subC (bodyC tab 23) [1, 1, 1, 1, 1, 0, 1, 0, 0]
noncomputable def c23_1_1_1_1_1_1 : Code := subC (bodyC tab 23) [1, 1, 1, 1, 1, 1]
theorem ec23_1_1 {ρ : Type} (k : K ρ) (T : Rg) (s : St) : denK tab W V 66 c23_1_1 k T s =
  bindR (mv (T 3)) fun v0 =>
  bindR (g1 (nilCheckV v0)) fun v1 =>
  bindR (g1 (fieldAddr tab 94 v1 0)) fun v2 =>
  bindR (g1 (fieldAddr tab 29 v2 3)) fun v3 =>
  bindR (g3 s (storeV tab s 24 v3 (AV.base (.slice none 0 0)))) fun s4 =>
  denK tab W V 66 c23_1_1_1 k (puts 66 T [(11, v0), (12, v1), (13, v2), (14, v3)]) s4 := by kernel_rfl
theorem ec23_1_1_1 {ρ : Type} (k : K ρ) (T : Rg) (s : St) : denK tab W V 66 c23_1_1_1 k T s =
  bindR (g1 (fieldAddr tab 29 (T 1) 3)) fun v0 =>
  bindR (g1 (loadV tab s 24 v0)) fun v1 =>
  bindR (g1 (lenV tab 24 v1)) fun v2 =>
  bindR (mv (intV .i64 0)) fun v3 =>
  bindR (loopLim (dd tab W V 66 c23_1_1_1_0_1_0_0) (puts 66 T [(15, v0), (16, v1), (17, v2), (18, v3)]) s) (K.app (kblk 0 (kseq (denK tab W V 66 c23_1_1_1_1 k) k))) := by kernel_rfl
theorem ec23_1_1_1_0_1_0_0 {ρ : Type} (k : K ρ) (T : Rg) (s : St) : denK tab W V 66 c23_1_1_1_0_1_0_0 k T s =
  bindR (g1 (Dt.binOp tab .lss 3 (T 18) (T 17) false)) fun v0 =>
  condR v0
  (bindR (g1 (indexAddr tab 24 (T 16) (T 18))) fun v1 =>
  bindR (g1 (loadV tab s 68 v1)) fun v2 =>
  bindR (allocA tab 68 s.n) fun q3 =>
  bindR (g3 (s.push q3.2) (storeV tab (s.push q3.2) 68 q3.1 v2)) fun s4 =>
  bindR (loadV tab s4 68 q3.1) fun v5 => bif (sameR (loadV tab s4 68 q3.1) v5 && true) then
  bif ([(AV.func (.func 50) [] []), v5].all fun x => bndA s4.n x) then bindR (g2 s4 (W 50 [v5] s4)) fun q6 => retK q6 (fun v7 s8 =>
  bif Nat.ble s4.n s8.n then bindR (.ok (T 3)) fun v9 =>
  bindR (nilCheckV v9) fun v10 =>
  bindR (fieldAddr tab 94 v10 0) fun v11 =>
  bindR (fieldAddr tab 29 v11 3) fun v12 =>
  bindR (loadV tab s8 24 v12) fun v13 => bif (sameR (loadV tab s8 24 v12) v13 && (sameR (loadV tab s4 24 v12) v13 && true)) then
  bindR (buildSliceA tab 24 1 [(0, v7)] s8.n) fun q14 => bif bndO (s8.n + 1) q14.2 then
  bif ([v13, q14.1].all fun x => bndA (s8.push q14.2).n x) then bindR (g4 (s8.push q14.2) (appendV tab (s8.push q14.2) 24 24 v13 q14.1)) fun q15 =>
  bif Nat.ble (s8.push q14.2).n q15.2.n then bindR (.ok (T 3)) fun v16 =>
  bindR (nilCheckV v16) fun v17 =>
  bindR (fieldAddr tab 94 v17 0) fun v18 =>
  bindR (fieldAddr tab 29 v18 3) fun v19 =>
  bif ([v19, q15.1].all fun x => bndA q15.2.n x) then bindR (g3 q15.2 (storeV tab q15.2 24 v19 q15.1)) fun s20 =>
  bif Nat.ble q15.2.n s20.n then bindR (g1 (Dt.binOp tab .add 3 (T 18) (intV .i64 1) true)) fun v21 =>
  bindR (mv v21) fun v22 =>
  k.nxt (puts 66 T [(19, v0), (20, v1), (21, v2), (5, q3.1), (28, v5), (29, v7), (23, v9), (24, v10), (25, v11), (26, v12), (27, v13), (30, q14.1), (31, q15.1), (22, v16), (32, v17), (33, v18), (34, v19), (35, v21), (18, v22)]) s20 else .error "draw n" else .error "draw ids" else .error "draw n" else .error "draw ids" else .error "draw object" else .error "unstable read" else .error "draw n") (fun _ _ => .error "panic in a drawn region") else .error "draw ids" else .error "unstable read")
  (k.exit 0 (puts 66 T [(19, v0)]) s) := by kernel_rfl
theorem ec23_1_1_1_1 {ρ : Type} (k : K ρ) (T : Rg) (s : St) : denK tab W V 66 c23_1_1_1_1 k T s =
  bindR (mv (T 3)) fun v0 =>
  bindR (g1 (nilCheckV v0)) fun v1 =>
  bindR (g1 (fieldAddr tab 94 v1 0)) fun v2 =>
  bindR (g1 (fieldAddr tab 29 v2 4)) fun v3 =>
  bindR (g1 (fieldAddr tab 27 v3 1)) fun v4 =>
  bindR (g3 s (storeV tab s 25 v4 (AV.base (.slice none 0 0)))) fun s5 =>
  bindR (g1 (fieldAddr tab 29 (T 1) 4)) fun v6 =>
  bindR (g1 (fieldAddr tab 27 v6 1)) fun v7 =>
  bindR (g1 (loadV tab s5 25 v7)) fun v8 =>
  bindR (g1 (lenV tab 25 v8)) fun v9 =>
  bindR (mv (intV .i64 0)) fun v10 =>
  bindR (loopLim (dd tab W V 66 c23_1_1_1_1_1_0_1_0_0) (puts 66 T [(36, v0), (37, v1), (38, v2), (39, v3), (40, v4), (41, v6), (42, v7), (43, v8), (44, v9), (45, v10)]) s5) (K.app (kblk 2 (kseq (denK tab W V 66 c23_1_1_1_1_1_1 k) k))) := by kernel_rfl
theorem ec23_1_1_1_1_1_0_1_0_0 {ρ : Type} (k : K ρ) (T : Rg) (s : St) : denK tab W V 66 c23_1_1_1_1_1_0_1_0_0 k T s =
  bindR (g1 (Dt.binOp tab .lss 3 (T 45) (T 44) false)) fun v0 =>
  condR v0
  (bindR (g1 (indexAddr tab 25 (T 43) (T 45))) fun v1 =>
  bindR (g1 (loadV tab s 137 v1)) fun v2 =>
  bindR (allocA tab 137 s.n) fun q3 =>
  bindR (g3 (s.push q3.2) (storeV tab (s.push q3.2) 137 q3.1 v2)) fun s4 =>
  bindR (loadV tab s4 137 q3.1) fun v5 => bif (sameR (loadV tab s4 137 q3.1) v5 && true) then
  bif ([(AV.func (.func 51) [] []), v5].all fun x => bndA s4.n x) then bindR (g2 s4 (W 51 [v5] s4)) fun q6 => retK q6 (fun v7 s8 =>
  bif Nat.ble s4.n s8.n then bindR (.ok (T 3)) fun v9 =>
  bindR (nilCheckV v9) fun v10 =>
  bindR (fieldAddr tab 94 v10 0) fun v11 =>
  bindR (fieldAddr tab 29 v11 4) fun v12 =>
  bindR (fieldAddr tab 27 v12 1) fun v13 =>
  bindR (loadV tab s8 25 v13) fun v14 => bif (sameR (loadV tab s8 25 v13) v14 && (sameR (loadV tab s4 25 v13) v14 && true)) then
  bindR (buildSliceA tab 25 1 [(0, v7)] s8.n) fun q15 => bif bndO (s8.n + 1) q15.2 then
  bif ([v14, q15.1].all fun x => bndA (s8.push q15.2).n x) then bindR (g4 (s8.push q15.2) (appendV tab (s8.push q15.2) 25 25 v14 q15.1)) fun q16 =>
  bif Nat.ble (s8.push q15.2).n q16.2.n then bindR (.ok (T 3)) fun v17 =>
  bindR (nilCheckV v17) fun v18 =>
  bindR (fieldAddr tab 94 v18 0) fun v19 =>
  bindR (fieldAddr tab 29 v19 4) fun v20 =>
  bindR (fieldAddr tab 27 v20 1) fun v21 =>
  bif ([v21, q16.1].all fun x => bndA q16.2.n x) then bindR (g3 q16.2 (storeV tab q16.2 25 v21 q16.1)) fun s22 =>
  bif Nat.ble q16.2.n s22.n then bindR (g1 (Dt.binOp tab .add 3 (T 45) (intV .i64 1) true)) fun v23 =>
  bindR (mv v23) fun v24 =>
  k.nxt (puts 66 T [(46, v0), (47, v1), (48, v2), (7, q3.1), (56, v5), (57, v7), (50, v9), (51, v10), (52, v11), (53, v12), (54, v13), (55, v14), (58, q15.1), (59, q16.1), (49, v17), (60, v18), (61, v19), (62, v20), (63, v21), (64, v23), (45, v24)]) s22 else .error "draw n" else .error "draw ids" else .error "draw n" else .error "draw ids" else .error "draw object" else .error "unstable read" else .error "draw n") (fun _ _ => .error "panic in a drawn region") else .error "draw ids" else .error "unstable read")
  (k.exit 2 (puts 66 T [(46, v0)]) s) := by kernel_rfl
theorem ec23_1_1_1_1_1_1 {ρ : Type} (k : K ρ) (T : Rg) (s : St) : denK tab W V 66 c23_1_1_1_1_1_1 k T s =
  bindR (mv (T 3)) fun v0 =>
  bindR (mv v0) fun v1 =>
  k.ret (puts 66 T [(65, v0), (2, v1)]) s := by kernel_rfl
theorem ec23 {ρ : Type} (k : K ρ) (a0 : AV) (s : St) : denK tab W V 66 c23 k (argE [a0]) s =
  bindR (boxA tab 29 a0 s.n) fun q0 =>
  bindR (mv (AV.base (.pointer none))) fun v1 =>
  bindR (g1 (loadV tab (s.push q0.2) 29 q0.1)) fun v2 =>
  bindR (g1 (Dt.build tab 94 [(0, v2)])) fun v3 =>
  bindR (boxA tab 94 v3 (s.push q0.2).n) fun q4 =>
  bindR (mv q4.1) fun v5 =>
  denK tab W V 66 c23_1_1 k (puts 66 (argE [a0]) [(1, q0.1), (2, v1), (8, v2), (9, v3), (10, q4.1), (3, v5)]) ((s.push q0.2).push q4.2) := by kernel_rfl
theorem w23 {args : List AV} {s : St} {r : AEnd × St} (hl : args.length ≤ 66) (h : denK tab W V 66 c23 (kRet tab [.tmp 2]) (argE args) s = .ok r) : W 23 args s = .ok r :=
  callW_of (fn := Tryz.f23) (by kernel_rfl) (by kernel_rfl) (by kernel_rfl) (by kernel_rfl) (by kernel_rfl) hl h
theorem r23 (T : Rg) (s : St) : (kRet tab [.tmp 2]).ret T s = .ok (.ret (T 2), s) := eqBy rfl
/- partywall/tenant.without[partywall/api.Registered] -/
noncomputable def c24 : Code := bodyC tab 24
theorem ec24 {ρ : Type} (k : K ρ) (a0 a1 a2 : AV) (s : St) : denK tab W V 33 c24 k (argE [a0, a1, a2]) s =
  bindR (mv (AV.base (.slice none 0 0))) fun v0 =>
  bindR (mv a0) fun v1 =>
  bindR (g1 (lenV tab 24 v1)) fun v2 =>
  bindR (g1 (Dt.binOp tab .sub 3 v2 (intV .i64 1) true)) fun v3 =>
  bindR (mv a0) fun v4 =>
  bindR (g1 (lenV tab 24 v4)) fun v5 =>
  bindR (mv a2) fun v6 =>
  bindR (g1 (lenV tab 24 v6)) fun v7 =>
  bindR (g1 (Dt.binOp tab .add 3 v5 v7 false)) fun v8 =>
  bindR (makeSliceA tab 24 v3 v8 s.n) fun q9 =>
  bindR (mv q9.1) fun v10 =>
  bindR (mv v10) fun v11 =>
  bindR (mv a0) fun v12 =>
  bindR (mv a1) fun v13 =>
  bindR (g1 (sliceV tab 24 v12 none (some v13) none)) fun v14 =>
  bindR (copyQ tab (s.push q9.2) 24 v11 v14) fun q15 => nextK W V 33 (puts 33 (argE [a0, a1, a2]) [(6, v0), (8, v1), (9, v2), (10, v3), (11, v4), (12, v5), (13, v6), (14, v7), (15, v8), (16, q9.1), (7, v10), (17, v11), (18, v12), (19, v13), (20, v14)]) (some 21) (fun T s16 =>
  bindR (.ok (T 7)) fun v17 =>
  bindR (.ok (T 1)) fun v18 =>
  bindR (sliceV tab 24 v17 (some v18) none none) fun v19 =>
  bindR (.ok (T 0)) fun v20 =>
  bindR (.ok (T 1)) fun v21 =>
  bindR (Dt.binOp tab .add 3 v21 (intV .i64 1) true) fun v22 =>
  bindR (sliceV tab 24 v20 (some v22) none none) fun v23 =>
  bif ([v19, v23].all fun x => bndA s16.n x) then bindR (copyQ tab s16 24 v19 v23) fun q24 => nextK W V 33 (puts 33 T [(22, v17), (23, v18), (24, v19), (25, v20), (26, v21), (27, v22), (28, v23)]) (some 29) (fun T s25 =>
  bif Nat.ble s16.n s25.n then bindR (mv (T 7)) fun v26 =>
  bindR (mv (T 2)) fun v27 =>
  bindR (g4 s25 (appendV tab s25 24 24 v26 v27)) fun q28 =>
  bindR (mv q28.1) fun v29 =>
  k.ret (puts 33 T [(30, v26), (31, v27), (32, q28.1), (6, v29)]) q28.2 else .error "draw n") (fun _ _ => .error "panic in a drawn region") q24.1 q24.2 else .error "draw ids") k.pan q15.1 q15.2 := by kernel_rfl
theorem w24 {args : List AV} {s : St} {r : AEnd × St} (hl : args.length ≤ 33) (h : denK tab W V 33 c24 (kRet tab [.tmp 6]) (argE args) s = .ok r) : W 24 args s = .ok r :=
  callW_of (fn := Tryz.f24) (by kernel_rfl) (by kernel_rfl) (by kernel_rfl) (by kernel_rfl) (by kernel_rfl) hl h
theorem r24 (T : Rg) (s : St) : (kRet tab [.tmp 6]).ret T s = .ok (.ret (T 6), s) := eqBy rfl
/- slices.IndexFunc[[]partywall/api.Registered,partywall/api.Registered] -/
noncomputable def c25 : Code := bodyC tab 25
noncomputable def c25_1_0_1_0_0 : Code := subC (bodyC tab 25) [1, 0, 1, 0, 0]
noncomputable def c25_1_1 : Code := subC (bodyC tab 25) [1, 1]
theorem ec25_1_0_1_0_0 {ρ : Type} (k : K ρ) (T : Rg) (s : St) : denK tab W V 19 c25_1_0_1_0_0 k T s =
  bindR (g1 (Dt.binOp tab .lss 3 (T 8) (T 7) false)) fun v0 =>
  condR v0
  (bindR (mv (T 8)) fun v1 =>
  bindR (mv v1) fun v2 =>
  bindR (mv (T 1)) fun v3 =>
  bindR (mv (T 0)) fun v4 =>
  bindR (mv v2) fun v5 =>
  bindR (g1 (indexAddr tab 24 v4 v5)) fun v6 =>
  bindR (g1 (loadV tab s 68 v6)) fun v7 =>
  bindR (g2 s (callG tab W V v3 [v7] s)) fun q8 => retK q8 (fun v9 s10 =>
  condR v9
  (bindR (mv v2) fun v11 =>
  bindR (mv v11) fun v12 =>
  k.ret (puts 19 T [(9, v0), (10, v1), (5, v2), (11, v3), (12, v4), (13, v5), (14, v6), (15, v7), (16, v9), (17, v11), (4, v12)]) s10)
  (bindR (g1 (Dt.binOp tab .add 3 (T 8) (intV .i64 1) true)) fun v13 =>
  bindR (mv v13) fun v14 =>
  k.nxt (puts 19 T [(9, v0), (10, v1), (5, v2), (11, v3), (12, v4), (13, v5), (14, v6), (15, v7), (16, v9), (18, v13), (8, v14)]) s10)) k.pan)
  (k.exit 0 (puts 19 T [(9, v0)]) s) := by kernel_rfl
theorem ec25_1_1 {ρ : Type} (k : K ρ) (T : Rg) (s : St) : denK tab W V 19 c25_1_1 k T s =
  bindR (mv (intV .i64 (-1))) fun v0 =>
  k.ret (puts 19 T [(4, v0)]) s := by kernel_rfl
theorem ec25 {ρ : Type} (k : K ρ) (a0 a1 : AV) (s : St) : denK tab W V 19 c25 k (argE [a0, a1]) s =
  bindR (mv (intV .i64 0)) fun v0 =>
  bindR (mv a0) fun v1 =>
  bindR (g1 (lenV tab 24 v1)) fun v2 =>
  bindR (mv (intV .i64 0)) fun v3 =>
  bindR (loopLim (dd tab W V 19 c25_1_0_1_0_0) (puts 19 (argE [a0, a1]) [(4, v0), (6, v1), (7, v2), (8, v3)]) s) (K.app (kblk 0 (kseq (denK tab W V 19 c25_1_1 k) k))) := by kernel_rfl
theorem w25 {args : List AV} {s : St} {r : AEnd × St} (hl : args.length ≤ 19) (h : denK tab W V 19 c25 (kRet tab [.tmp 4]) (argE args) s = .ok r) : W 25 args s = .ok r :=
  callW_of (fn := Tryz.f25) (by kernel_rfl) (by kernel_rfl) (by kernel_rfl) (by kernel_rfl) (by kernel_rfl) hl h
theorem r25 (T : Rg) (s : St) : (kRet tab [.tmp 4]).ret T s = .ok (.ret (T 4), s) := eqBy rfl
/- partywall/tenant.Find$1 -/
noncomputable def c26 : Code := bodyC tab 26
theorem ec26 {ρ : Type} (k : K ρ) (a0 a1 : AV) (s : St) : denK tab W V 8 c26 k (argE [a0, a1]) s =
  bindR (boxA tab 68 a0 s.n) fun q0 =>
  bindR (mv (boolV false)) fun v1 =>
  bindR (g1 (fieldAddr tab 68 q0.1 0)) fun v2 =>
  bindR (g1 (loadV tab (s.push q0.2) 3 v2)) fun v3 =>
  bindR (g1 (loadV tab (s.push q0.2) 3 a1)) fun v4 =>
  bindR (g1 (Dt.binOp tab .eql 3 v3 v4 false)) fun v5 =>
  bindR (mv v5) fun v6 =>
  k.ret (puts 8 (argE [a0, a1]) [(2, q0.1), (3, v1), (4, v2), (5, v3), (6, v4), (7, v5), (3, v6)]) (s.push q0.2) := by kernel_rfl
theorem w26 {args : List AV} {s : St} {r : AEnd × St} (hl : args.length ≤ 8) (h : denK tab W V 8 c26 (kRet tab [.tmp 3]) (argE args) s = .ok r) : W 26 args s = .ok r :=
  callW_of (fn := Tryz.f26) (by kernel_rfl) (by kernel_rfl) (by kernel_rfl) (by kernel_rfl) (by kernel_rfl) hl h
theorem r26 (T : Rg) (s : St) : (kRet tab [.tmp 3]).ret T s = .ok (.ret (T 3), s) := eqBy rfl
/- partywall/tenant.Add$1 -/
noncomputable def c30 : Code := bodyC tab 30
theorem ec30 {ρ : Type} (k : K ρ) (a0 a1 a2 a3 : AV) (s : St) : denK tab W V 14 c30 k (argE [a0, a1, a2, a3]) s =
  bindR (g1 (fieldAddr tab 70 a0 0)) fun v0 =>
  bindR (g1 (loadV tab s 37 v0)) fun v1 =>
  bindR (g1 (Dt.binOp tab .eql 37 v1 (intV .i64 0) true)) fun v2 =>
  bindR (mv v2) fun v3 =>
  bindR (bif isBoolV v3 true then loadV tab s 37 a1 else .ok AV.undef) fun v4 =>
  bindR (bif isBoolV v3 true then Dt.binOp tab .neq 37 v4 (intV .i64 0) true else .ok AV.undef) fun v5 =>
  bindR (g1 (pickV v3 v5 (boolV false))) fun v6 =>
  condR v6
  (bindR (g1 (Dt.build tab 29 [])) fun v7 =>
  bindR (g1 (loadV tab s 37 a1)) fun v8 =>
  bindR (g1 (Dt.build tab 70 [(0, v8)])) fun v9 =>
  bindR (g3 s (storeV tab s 29 a2 v7)) fun s10 =>
  bindR (g3 s10 (storeV tab s10 3 a3 (intV .i64 0))) fun s11 =>
  bindR (g3 s11 (storeV tab s11 70 a0 v9)) fun s12 =>
  k.nxt (puts 14 (argE [a0, a1, a2, a3]) [(4, v0), (5, v1), (6, v2), (7, v3), (8, v4), (9, v5), (10, v6), (11, v7), (12, v8), (13, v9)]) s12)
  (k.nxt (puts 14 (argE [a0, a1, a2, a3]) [(4, v0), (5, v1), (6, v2), (7, v3), (8, v4), (9, v5), (10, v6)]) s) := by kernel_rfl
theorem w30 {args : List AV} {s : St} {r : AEnd × St} (hl : args.length ≤ 14) (h : denK tab W V 14 c30 (kRet tab []) (argE args) s = .ok r) : W 30 args s = .ok r :=
  callW_of (fn := Tryz.f30) (by kernel_rfl) (by kernel_rfl) (by kernel_rfl) (by kernel_rfl) (by kernel_rfl) hl h
theorem r30 (T : Rg) (s : St) : (kRet tab []).ret T s = .ok (.ret (AV.tuple []), s) := eqBy rfl
/- partywall/tenant.Add$2 -/
noncomputable def c32 : Code := bodyC tab 32
theorem ec32 {ρ : Type} (k : K ρ) (a0 : AV) (s : St) : denK tab W V 4 c32 k (argE [a0]) s =
  bindR (mv (intV .i64 0)) fun v0 =>
  bindR (g1 (loadV tab s 55 a0)) fun v1 =>
  bindR (g2 s (W 33 [v1] s)) fun q2 => retK q2 (fun v3 s4 =>
  bindR (mv v3) fun v5 =>
  k.ret (puts 4 (argE [a0]) [(1, v0), (2, v1), (3, v3), (1, v5)]) s4) k.pan := by kernel_rfl
theorem w32 {args : List AV} {s : St} {r : AEnd × St} (hl : args.length ≤ 4) (h : denK tab W V 4 c32 (kRet tab [.tmp 1]) (argE args) s = .ok r) : W 32 args s = .ok r :=
  callW_of (fn := Tryz.f32) (by kernel_rfl) (by kernel_rfl) (by kernel_rfl) (by kernel_rfl) (by kernel_rfl) hl h
theorem r32 (T : Rg) (s : St) : (kRet tab [.tmp 1]).ret T s = .ok (.ret (T 1), s) := eqBy rfl
/- partywall/tenant.Add$3 -/
noncomputable def c34 : Code := bodyC tab 34
theorem ec34 {ρ : Type} (k : K ρ) (a0 : AV) (s : St) : denK tab W V 10 c34 k (argE [a0]) s =
  bindR (mv (intV .i64 0)) fun v0 =>
  bindR (g1 (loadV tab s 55 a0)) fun v1 =>
  bindR (g2 s (W 35 [v1] s)) fun q2 => retK q2 (fun v3 s4 =>
  bindR (mv v3) fun v5 =>
  bindR (g1 (extractV v5 0)) fun v6 =>
  bindR (g1 (extractV v5 1)) fun v7 =>
  bindR (mv v6) fun v8 =>
  bindR (mv v7) fun v9 =>
  bindR (mv v9) fun v10 =>
  bindR (mv v10) fun v11 =>
  k.ret (puts 10 (argE [a0]) [(1, v0), (5, v1), (6, v3), (4, v5), (7, v6), (8, v7), (2, v8), (3, v9), (9, v10), (1, v11)]) s4) k.pan := by kernel_rfl
theorem w34 {args : List AV} {s : St} {r : AEnd × St} (hl : args.length ≤ 10) (h : denK tab W V 10 c34 (kRet tab [.tmp 1]) (argE args) s = .ok r) : W 34 args s = .ok r :=
  callW_of (fn := Tryz.f34) (by kernel_rfl) (by kernel_rfl) (by kernel_rfl) (by kernel_rfl) (by kernel_rfl) hl h
theorem r34 (T : Rg) (s : St) : (kRet tab [.tmp 1]).ret T s = .ok (.ret (T 1), s) := eqBy rfl
/- partywall/tenant.Add$4 -/
noncomputable def c36 : Code := bodyC tab 36
theorem ec36 {ρ : Type} (k : K ρ) (a0 a1 : AV) (s : St) : denK tab W V 7 c36 k (argE [a0, a1]) s =
  bindR (mv (intV .i64 0)) fun v0 =>
  bindR (g1 (loadV tab s 55 a0)) fun v1 =>
  bindR (g1 (fieldAddr tab 29 a1 1)) fun v2 =>
  bindR (g1 (loadV tab s 23 v2)) fun v3 =>
  bindR (g2 s (W 37 [v1, v3] s)) fun q4 => retK q4 (fun v5 s6 =>
  bindR (mv v5) fun v7 =>
  k.ret (puts 7 (argE [a0, a1]) [(2, v0), (3, v1), (4, v2), (5, v3), (6, v5), (2, v7)]) s6) k.pan := by kernel_rfl
theorem w36 {args : List AV} {s : St} {r : AEnd × St} (hl : args.length ≤ 7) (h : denK tab W V 7 c36 (kRet tab [.tmp 2]) (argE args) s = .ok r) : W 36 args s = .ok r :=
  callW_of (fn := Tryz.f36) (by kernel_rfl) (by kernel_rfl) (by kernel_rfl) (by kernel_rfl) (by kernel_rfl) hl h
theorem r36 (T : Rg) (s : St) : (kRet tab [.tmp 2]).ret T s = .ok (.ret (T 2), s) := eqBy rfl
/- partywall/tenant.queries -/
noncomputable def c42 : Code := bodyC tab 42
noncomputable def c42_1 : Code := subC (bodyC tab 42) [1]
noncomputable def c42_1_1_0_1 : Code := subC (bodyC tab 42) [1, 1, 0, 1]
noncomputable def c42_1_1_1 : Code := subC (bodyC tab 42) [1, 1, 1]
noncomputable def c42_1_1_0_1_0_0 : Code := subC (bodyC tab 42) [1, 1, 0, 1, 0, 0]
noncomputable def c42_1_1_0_1_0_0_1_1_0_0_1_1_1_1_1 : Code := subC (bodyC tab 42) [1, 1, 0, 1, 0, 0, 1, 1, 0, 0, 1, 1, 1, 1, 1]
noncomputable def c42_1_1_0_1_0_0_1_1_1 : Code := subC (bodyC tab 42) [1, 1, 0, 1, 0, 0, 1, 1, 1]
theorem ec42_1 {ρ : Type} (k : K ρ) (T : Rg) (s : St) : denK tab W V 51 c42_1 k T s =
  bindR (.ok (AV.mapv s.n, AO.map [] 0)) fun q0 =>
  bindR (mv q0.1) fun v1 =>
  bindR (g1 (fieldAddr tab 29 (T 5) 3)) fun v2 =>
  bindR (g1 (loadV tab (s.push q0.2) 24 v2)) fun v3 =>
  bindR (g1 (lenV tab 24 v3)) fun v4 =>
  bindR (mv (intV .i64 0)) fun v5 =>
  denK tab W V 51 c42_1_1_0_1 (kseq (denK tab W V 51 c42_1_1_1 k) k) (puts 51 T [(11, q0.1), (7, v1), (12, v2), (13, v3), (14, v4), (15, v5)]) (s.push q0.2) := by kernel_rfl
theorem ec42_1_1_0_1 {ρ : Type} (k : K ρ) (T : Rg) (s : St) : denK tab W V 51 c42_1_1_0_1 k T s =
  bindR (loopLim (dd tab W V 51 c42_1_1_0_1_0_0) T s) (K.app (kblk 0 k)) := by kernel_rfl
theorem ec42_1_1_1 {ρ : Type} (k : K ρ) (T : Rg) (s : St) : denK tab W V 51 c42_1_1_1 k T s =
  bindR (mv (intV .i64 0)) fun v0 =>
  k.ret (puts 51 T [(6, v0)]) s := by kernel_rfl
theorem ec42_1_1_0_1_0_0 {ρ : Type} (k : K ρ) (T : Rg) (s : St) : denK tab W V 51 c42_1_1_0_1_0_0 k T s =
  bindR (g1 (Dt.binOp tab .lss 3 (T 15) (T 14) false)) fun v0 =>
  condR v0
  (bindR (g1 (indexAddr tab 24 (T 13) (T 15))) fun v1 =>
  bindR (g1 (loadV tab s 68 v1)) fun v2 =>
  bindR (allocA tab 68 s.n) fun q3 =>
  bindR (g3 (s.push q3.2) (storeV tab (s.push q3.2) 68 q3.1 v2)) fun s4 =>
  bindR (g1 (fieldAddr tab 68 q3.1 0)) fun v5 =>
  bindR (g1 (loadV tab s4 3 v5)) fun v6 =>
  bindR (g1 (Dt.binOp tab .lss 3 v6 (intV .i64 1) true)) fun v7 =>
  bindR (mv v7) fun v8 =>
  bindR (bif isBoolV v8 false then fieldAddr tab 68 q3.1 0 else .ok AV.undef) fun v9 =>
  bindR (bif isBoolV v8 false then loadV tab s4 3 v9 else .ok AV.undef) fun v10 =>
  bindR (bif isBoolV v8 false then fieldAddr tab 29 (T 5) 2 else .ok AV.undef) fun v11 =>
  bindR (bif isBoolV v8 false then loadV tab s4 3 v11 else .ok AV.undef) fun v12 =>
  bindR (bif isBoolV v8 false then Dt.binOp tab .gtr 3 v10 v12 false else .ok AV.undef) fun v13 =>
  bindR (g1 (pickV v8 (boolV true) v13)) fun v14 =>
  bindR (mv v14) fun v15 =>
  bindR (bif isBoolV v15 false then .ok (T 7) else .ok AV.undef) fun v16 =>
  bindR (bif isBoolV v15 false then fieldAddr tab 68 q3.1 0 else .ok AV.undef) fun v17 =>
  bindR (bif isBoolV v15 false then loadV tab s4 3 v17 else .ok AV.undef) fun v18 =>
  bindR (bif isBoolV v15 false then lookupV tab s4 185 v16 v18 false else .ok AV.undef) fun v19 =>
  bindR (g1 (pickV v15 (boolV true) v19)) fun v20 =>
  condR v20
  (bindR (mv (intV .i64 9)) fun v21 =>
  k.ret (puts 51 T [(16, v0), (17, v1), (18, v2), (9, q3.1), (19, v5), (20, v6), (21, v7), (22, v8), (23, v9), (24, v10), (25, v11), (26, v12), (27, v13), (28, v14), (29, v15), (30, v16), (31, v17), (32, v18), (33, v19), (34, v20), (6, v21)]) s4)
  (bindR (mv (T 7)) fun v22 =>
  bindR (g1 (fieldAddr tab 68 q3.1 0)) fun v23 =>
  bindR (g1 (loadV tab s4 3 v23)) fun v24 =>
  bindR (mapUpdQ tab s4 185 v22 v24 (boolV true)) fun q25 => nextK W V 51 (puts 51 T [(16, v0), (17, v1), (18, v2), (9, q3.1), (19, v5), (20, v6), (21, v7), (22, v8), (23, v9), (24, v10), (25, v11), (26, v12), (27, v13), (28, v14), (29, v15), (30, v16), (31, v17), (32, v18), (33, v19), (34, v20), (35, v22), (36, v23), (37, v24)]) none (fun T s26 =>
  bindR (g1 (loadV tab s26 33 (T 3))) fun v27 =>
  bindR (g1 (loadV tab s26 68 (T 9))) fun v28 =>
  bindR (g2 s26 (W 73 [v27, v28] s26)) fun q29 => retK q29 (fun v30 s31 =>
  bindR (mv v30) fun v32 =>
  bindR (mv v32) fun v33 =>
  bindR (g1 (Dt.binOp tab .eql 37 v33 (intV .i64 0) true)) fun v34 =>
  condR v34
  (bindR (g1 (loadV tab s31 41 (T 4))) fun v35 =>
  bindR (g1 (loadV tab s31 29 (T 5))) fun v36 =>
  bindR (g1 (loadV tab s31 68 (T 9))) fun v37 =>
  bindR (g2 s31 (W 74 [v35, v36, v37] s31)) fun q38 => retK q38 (fun v39 s40 =>
  bindR (mv v39) fun v41 =>
  denK tab W V 51 c42_1_1_0_1_0_0_1_1_0_0_1_1_1_1_1 (kblk 1 (kseq (denK tab W V 51 c42_1_1_0_1_0_0_1_1_1 k) k)) (puts 51 T [(38, v27), (39, v28), (40, v30), (10, v32), (41, v33), (42, v34), (43, v35), (44, v36), (45, v37), (46, v39), (10, v41)]) s40) k.pan)
  (denK tab W V 51 c42_1_1_0_1_0_0_1_1_0_0_1_1_1_1_1 (kblk 1 (kseq (denK tab W V 51 c42_1_1_0_1_0_0_1_1_1 k) k)) (puts 51 T [(38, v27), (39, v28), (40, v30), (10, v32), (41, v33), (42, v34)]) s31)) k.pan) k.pan q25.1 q25.2))
  (k.exit 0 (puts 51 T [(16, v0)]) s) := by kernel_rfl
theorem ec42_1_1_0_1_0_0_1_1_0_0_1_1_1_1_1 {ρ : Type} (k : K ρ) (T : Rg) (s : St) : denK tab W V 51 c42_1_1_0_1_0_0_1_1_0_0_1_1_1_1_1 k T s =
  bindR (mv (T 10)) fun v0 =>
  bindR (g1 (Dt.binOp tab .neq 37 v0 (intV .i64 0) true)) fun v1 =>
  condR v1
  (bindR (mv (T 10)) fun v2 =>
  bindR (mv v2) fun v3 =>
  k.ret (puts 51 T [(47, v0), (48, v1), (49, v2), (6, v3)]) s)
  (k.nxt (puts 51 T [(47, v0), (48, v1)]) s) := by kernel_rfl
theorem ec42_1_1_0_1_0_0_1_1_1 {ρ : Type} (k : K ρ) (T : Rg) (s : St) : denK tab W V 51 c42_1_1_0_1_0_0_1_1_1 k T s =
  bindR (g1 (Dt.binOp tab .add 3 (T 15) (intV .i64 1) true)) fun v0 =>
  bindR (mv v0) fun v1 =>
  k.nxt (puts 51 T [(50, v0), (15, v1)]) s := by kernel_rfl
theorem ec42 {ρ : Type} (k : K ρ) (a0 a1 a2 : AV) (s : St) : denK tab W V 51 c42 k (argE [a0, a1, a2]) s =
  bindR (boxA tab 33 a0 s.n) fun q0 =>
  bindR (boxA tab 41 a1 (s.push q0.2).n) fun q1 =>
  bindR (boxA tab 29 a2 ((s.push q0.2).push q1.2).n) fun q2 =>
  bindR (mv (intV .i64 0)) fun v3 =>
  denK tab W V 51 c42_1 k (puts 51 (argE [a0, a1, a2]) [(3, q0.1), (4, q1.1), (5, q2.1), (6, v3)]) (((s.push q0.2).push q1.2).push q2.2) := by kernel_rfl
theorem w42 {args : List AV} {s : St} {r : AEnd × St} (hl : args.length ≤ 51) (h : denK tab W V 51 c42 (kRet tab [.tmp 6]) (argE args) s = .ok r) : W 42 args s = .ok r :=
  callW_of (fn := Tryz.f42) (by kernel_rfl) (by kernel_rfl) (by kernel_rfl) (by kernel_rfl) (by kernel_rfl) hl h
theorem r42 (T : Rg) (s : St) : (kRet tab [.tmp 6]).ret T s = .ok (.ret (T 6), s) := eqBy rfl
/- partywall/tenant.fits -/
noncomputable def c74 : Code := bodyC tab 74
theorem ec74 {ρ : Type} (k : K ρ) (a0 a1 a2 : AV) (s : St) : denK tab W V 21 c74 k (argE [a0, a1, a2]) s =
  bindR (boxA tab 41 a0 s.n) fun q0 =>
  bindR (boxA tab 29 a1 (s.push q0.2).n) fun q1 =>
  bindR (boxA tab 68 a2 ((s.push q0.2).push q1.2).n) fun q2 =>
  bindR (mv (intV .i64 0)) fun v3 =>
  bindR (g1 (fieldAddr tab 68 q2.1 3)) fun v4 =>
  bindR (g1 (fieldAddr tab 65 v4 0)) fun v5 =>
  bindR (g1 (loadV tab (((s.push q0.2).push q1.2).push q2.2) 23 v5)) fun v6 =>
  bindR (g1 (fieldAddr tab 29 q1.1 1)) fun v7 =>
  bindR (g1 (loadV tab (((s.push q0.2).push q1.2).push q2.2) 23 v7)) fun v8 =>
  bindR (g1 (Dt.binOp tab .neq 23 v6 v8 false)) fun v9 =>
  bindR (mv v9) fun v10 =>
  condR v10
  (bindR (mv (intV .i64 13)) fun v11 =>
  k.ret (puts 21 (argE [a0, a1, a2]) [(3, q0.1), (4, q1.1), (5, q2.1), (6, v3), (8, v4), (9, v5), (10, v6), (11, v7), (12, v8), (13, v9), (7, v10), (6, v11)]) (((s.push q0.2).push q1.2).push q2.2))
  (bindR (g1 (fieldAddr tab 68 q2.1 2)) fun v12 =>
  bindR (g1 (fieldAddr tab 62 v12 3)) fun v13 =>
  bindR (g1 (loadV tab (((s.push q0.2).push q1.2).push q2.2) 3 v13)) fun v14 =>
  bindR (g1 (fieldAddr tab 41 q0.1 2)) fun v15 =>
  bindR (g1 (loadV tab (((s.push q0.2).push q1.2).push q2.2) 3 v15)) fun v16 =>
  bindR (g1 (Dt.binOp tab .neq 3 v14 v16 false)) fun v17 =>
  bindR (mv v17) fun v18 =>
  condR v18
  (bindR (mv (intV .i64 3)) fun v19 =>
  k.ret (puts 21 (argE [a0, a1, a2]) [(3, q0.1), (4, q1.1), (5, q2.1), (6, v3), (8, v4), (9, v5), (10, v6), (11, v7), (12, v8), (13, v9), (7, v10), (15, v12), (16, v13), (17, v14), (18, v15), (19, v16), (20, v17), (14, v18), (6, v19)]) (((s.push q0.2).push q1.2).push q2.2))
  (bindR (mv (intV .i64 0)) fun v20 =>
  k.ret (puts 21 (argE [a0, a1, a2]) [(3, q0.1), (4, q1.1), (5, q2.1), (6, v3), (8, v4), (9, v5), (10, v6), (11, v7), (12, v8), (13, v9), (7, v10), (15, v12), (16, v13), (17, v14), (18, v15), (19, v16), (20, v17), (14, v18), (6, v20)]) (((s.push q0.2).push q1.2).push q2.2))) := by kernel_rfl
theorem w74 {args : List AV} {s : St} {r : AEnd × St} (hl : args.length ≤ 21) (h : denK tab W V 21 c74 (kRet tab [.tmp 6]) (argE args) s = .ok r) : W 74 args s = .ok r :=
  callW_of (fn := Tryz.f74) (by kernel_rfl) (by kernel_rfl) (by kernel_rfl) (by kernel_rfl) (by kernel_rfl) hl h
theorem r74 (T : Rg) (s : St) : (kRet tab [.tmp 6]).ret T s = .ok (.ret (T 6), s) := eqBy rfl
end Go.Proofs.YtcibhglcmcgneaaGreatDoor
