/- PRINTED by wip/gen.py: for each function its verification condition, and that it yields Sp. -/
import Derived.Test.YtbjakblkppnieaaVc7
import Derived.Test.YtbjakblkppnieaaChecked
set_option linter.unusedVariables false
namespace Go.Proofs.Ytbjakblkppnieaa
open Go Vc

theorem mixed : Try.prog.follows .mixedOrders = true := by kernel_rfl

/-- function 3: sautoir/sautoirlaw10.SpacePlays -/
def VC_sautoirlaw10_SpacePlays (P : Program) (a0 a1 a2 : Value) (w : World) (R : Value → World → Prop) : Prop :=
  Sp P 7 [] w fun v1 w1 =>
  PureV P (buildS 28 #[]) fun v2 =>
  RunV P (boxS 28 v2) w1 fun v3 w2 =>
  Join (fun J1 : World → Prop =>
  ReadV P (lenS #[22] 3 #[a0]) w2 fun v4 =>
  LoopP [19] [(.int .i64 0)] w2 fun H2 m2 w3 =>
  PureV P (binS .lss 3 (m2 19) v4) fun v5 =>
  IfP v5
  (PureV P (iaddrS 22 a0 (m2 19)) fun v6 =>
  LoadV P 30 v6 w3 fun v7 =>
  RunV P (allocS 30 true (.tuple #[])) w3 fun v8 w4 =>
  StoreV P 30 v8 v7 w4 fun w5 =>
  PureV P (binS .geq 3 (m2 19) (.int .i64 30)) fun v9 =>
  IfP v9
  (J1 w5)
  (LoadV P 30 v8 w5 fun v10 =>
  Sp P 8 [v1, v3, v10] w5 fun v11 w6 =>
  PureV P (unS .not v11) fun v12 =>
  GuardV v12 false (fun J => J v1 w6) w6 fun v13 w7 =>
  GuardV v12 false (fun J => J v3 w7) w7 fun v14 w8 =>
  GuardV v12 false (fun J => J a1 w8) w8 fun v15 w9 =>
  GuardV v12 false (fun J => J a2 w9) w9 fun v16 w10 =>
  GuardV v12 false (fun J => Sp P 9 [v13, v14, v15, v16] w10 J) w10 fun v17 w11 =>
  GuardV v12 false (fun J => PureV P (unS .not v17) fun v19 => J v19 w11) w11 fun v18 w12 =>
  PureV P (pickS v12 (.bool true) v18) fun v20 =>
  GuardV v20 false (fun J => J v1 w12) w12 fun v21 w13 =>
  GuardV v20 false (fun J => J v3 w13) w13 fun v22 w14 =>
  GuardV v20 false (fun J => PureV P (faddrS 30 v8 1) fun v24 => J v24 w14) w14 fun v23 w15 =>
  GuardV v20 false (fun J => LoadV P 9 v23 w15 fun v26 => J v26 w15) w15 fun v25 w16 =>
  GuardV v20 false (fun J => J a2 w16) w16 fun v27 w17 =>
  GuardV v20 false (fun J => Sp P 9 [v21, v22, v25, v27] w17 J) w17 fun v28 w18 =>
  GuardV v20 false (fun J => PureV P (unS .not v28) fun v30 => J v30 w18) w18 fun v29 w19 =>
  PureV P (pickS v20 (.bool true) v29) fun v31 =>
  IfP v31
  (R (.bool false) w19)
  (PureV P (nilS v3) fun v32 =>
  PureV P (faddrS 28 v32 0) fun v33 =>
  LoadV P 26 v33 w19 fun v34 =>
  ReadV P (lenS #[26] 3 #[v34]) w19 fun v35 =>
  LoopP [11, 53] [(.slice none 0 0), (.int .i64 0)] w19 fun H3 m3 w20 =>
  PureV P (binS .lss 3 (m3 53) v35) fun v36 =>
  IfP v36
  (PureV P (iaddrS 26 v34 (m3 53)) fun v37 =>
  LoadV P 36 v37 w20 fun v38 =>
  RunV P (allocS 36 true (.tuple #[])) w20 fun v39 w21 =>
  StoreV P 36 v39 v38 w21 fun w22 =>
  PureV P (faddrS 36 v39 0) fun v40 =>
  LoadV P 9 v40 w22 fun v41 =>
  RunV P (bsliceS 33 1 #[(0, v41)]) w22 fun v42 w23 =>
  RunV P (appS #[33, 33] 33 #[(m3 11), v42]) w23 fun v43 w24 =>
  PureV P (faddrS 36 v39 0) fun v44 =>
  LoadV P 9 v44 (World.drew w24) fun v45 =>
  PureV P (faddrS 36 v39 1) fun v46 =>
  LoadV P 34 v46 (World.drew w24) fun v47 =>
  PureV P (faddrS 36 v39 1) fun v48 =>
  LoadV P 34 v48 (World.drew w24) fun v49 =>
  ReadV P (lenS #[34] 3 #[v49]) (World.drew w24) fun v50 =>
  PureV P (binS .sub 3 v50 (.int .i64 1)) fun v51 =>
  PureV P (iaddrS 34 v47 v51) fun v52 =>
  PureV P (faddrS 40 v52 1) fun v53 =>
  LoadV P 37 v53 (World.drew w24) fun v54 =>
  Sp P 10 [v1, v45] (World.drew w24) fun v55 w25 =>
  loadO P 37 v53 w25 = some v54 ∧
  Stay P (lenS #[34] 3 #[v49]) v50 w25 ∧
  loadO P 34 v48 w25 = some v49 ∧
  loadO P 34 v46 w25 = some v47 ∧
  PureV P (eqS .neq 37 false v55 v54) fun v56 =>
  IfP v56
  (R (.bool false) w25)
  (PureV P (binS .add 3 (m3 53) (.int .i64 1)) fun v57 =>
  H3 [v43, v57] w25))
  (Sp P 12 [v1] w20 fun v58 w26 =>
  Sp P 11 [v58, (m3 11)] w26 fun v59 w27 =>
  PureV P (unS .not v59) fun v60 =>
  GuardV v60 false (fun J => J v1 w27) w27 fun v61 w28 =>
  GuardV v60 false (fun J => J a2 w28) w28 fun v62 w29 =>
  GuardV v60 false (fun J => Sp P 13 [v61, v62] w29 J) w29 fun v63 w30 =>
  GuardV v60 false (fun J => J v3 w30) w30 fun v64 w31 =>
  GuardV v60 false (fun J => J a2 w31) w31 fun v65 w32 =>
  GuardV v60 false (fun J => Sp P 14 [v64, v65] w32 J) w32 fun v66 w33 =>
  GuardV v60 false (fun J => Sp P 11 [v63, v66] w33 J) w33 fun v67 w34 =>
  GuardV v60 false (fun J => PureV P (unS .not v67) fun v69 => J v69 w34) w34 fun v68 w35 =>
  PureV P (pickS v60 (.bool true) v68) fun v70 =>
  IfP v70
  (R (.bool false) w35)
  (PureV P (binS .add 3 (m2 19) (.int .i64 1)) fun v71 =>
  H2 [v71] w35)))))
  (J1 w3))
  (fun w36 =>
  Sp P 15 [] w36 fun v72 w37 =>
  R v72 w37)
theorem hb_sautoirlaw10_SpacePlays : HasBody Try.prog 3 = true := by kernel_rfl
theorem ok_sautoirlaw10_SpacePlays : codeOK 94 19807040628566084398385987583 ((Try.f3.body).getD .skip) (.node .nil (.node .nil (.node (.node .nil (.node (.loop 9903520314283042199192481344 [19] (.node .nil (.node .nil (.node (.node (.node .nil (.node .nil (.node .nil (.node .nil (.node (.node .nil (.node (.loop 151115718444629392107584 [11, 53] (.node .nil (.node .nil (.node (.node (.node .nil (.node .nil (.node (.draw [0, 0, 2, 7, 0, 16, 0, 64, 192, 448, 1008, 2032, 4080, 8191] (.rd 0 (.rd 1 (.rd 2 (.rd 4 (.rd 5 (.rd 6 (.rd 7 (.rd 8 (.rd 9 (.rd 10 (.rd 11 (.rd 12 (.imp 3 [12, 8, 7, 5] (.rd 13 .done))))))))))))))) .nil))) .nil) .nil)))) .nil)) .nil))))) .nil) .nil)))) .nil)) .nil))) = true := by kernel_rfl
theorem eq_sautoirlaw10_SpacePlays {a0 a1 a2 : Value} (w : World) (R : Value → World → Prop) : wpA Try.prog ((Try.f3.body).getD .skip) (.node .nil (.node .nil (.node (.node .nil (.node (.loop 9903520314283042199192481344 [19] (.node .nil (.node .nil (.node (.node (.node .nil (.node .nil (.node .nil (.node .nil (.node (.node .nil (.node (.loop 151115718444629392107584 [11, 53] (.node .nil (.node .nil (.node (.node (.node .nil (.node .nil (.node (.draw [0, 0, 2, 7, 0, 16, 0, 64, 192, 448, 1008, 2032, 4080, 8191] (.rd 0 (.rd 1 (.rd 2 (.rd 4 (.rd 5 (.rd 6 (.rd 7 (.rd 8 (.rd 9 (.rd 10 (.rd 11 (.rd 12 (.imp 3 [12, 8, 7, 5] (.rd 13 .done))))))))))))))) .nil))) .nil) .nil)))) .nil)) .nil))))) .nil) .nil)))) .nil)) .nil))) (retE Try.prog Try.f3.results R) (envA [a0, a1, a2]) w = VC_sautoirlaw10_SpacePlays Try.prog a0 a1 a2 w R := by kernel_rfl
theorem vc_sautoirlaw10_SpacePlays {a0 a1 a2 : Value} {w : World} {R : Value → World → Prop} (h : VC_sautoirlaw10_SpacePlays Try.prog a0 a1 a2 w R) : Sp Try.prog 3 [a0, a1, a2] w R :=
  spec_of Try.func3 (c := (Try.f3.body).getD .skip) rfl hb_sautoirlaw10_SpacePlays mixed _ _ ok_sautoirlaw10_SpacePlays (by simp [Try.ntmps3]) (by rw [eq_sautoirlaw10_SpacePlays]; exact h)

/-- function 4: sautoir/sautoirlaw10.SpaceApart -/
def VC_sautoirlaw10_SpaceApart (P : Program) (a0 a1 a2 a3 : Value) (w : World) (R : Value → World → Prop) : Prop :=
  RunV P (boxS 30 a1) w fun v1 w1 =>
  Sp P 7 [] w1 fun v2 w2 =>
  PureV P (buildS 28 #[]) fun v3 =>
  RunV P (boxS 28 v3) w2 fun v4 w3 =>
  ReadV P (lenS #[22] 3 #[a0]) w3 fun v5 =>
  LoopP [23] [(.int .i64 0)] w3 fun H1 m1 w4 =>
  PureV P (binS .lss 3 (m1 23) v5) fun v6 =>
  IfP v6
  (Join (fun J2 : World → Prop =>
  PureV P (iaddrS 22 a0 (m1 23)) fun v7 =>
  LoadV P 30 v7 w4 fun v8 =>
  RunV P (allocS 30 true (.tuple #[])) w4 fun v9 w5 =>
  StoreV P 30 v9 v8 w5 fun w6 =>
  PureV P (binS .lss 3 (m1 23) (.int .i64 15)) fun v10 =>
  IfP v10
  (LoadV P 30 v9 w6 fun v11 =>
  Sp P 8 [v2, v4, v11] w6 fun v12 w7 =>
  J2 w7)
  (J2 w6))
  (fun w8 =>
  PureV P (binS .add 3 (m1 23) (.int .i64 1)) fun v13 =>
  H1 [v13] w8))
  (Sp P 16 [v2, a2, a3] w4 fun v14 w9 =>
  PureV P (extrS v14 0) fun v15 =>
  PureV P (extrS v14 1) fun v16 =>
  RunV P (allocS 46 true (.tuple #[])) w9 fun v17 w10 =>
  StoreV P 46 v17 v15 w10 fun w11 =>
  Sp P 10 [v2, a2] w11 fun v18 w12 =>
  PureV P (faddrS 30 v1 1) fun v19 =>
  LoadV P 9 v19 w12 fun v20 =>
  PureV P (faddrS 30 v1 2) fun v21 =>
  LoadV P 3 v21 w12 fun v22 =>
  PureV P (faddrS 30 v1 3) fun v23 =>
  LoadV P 9 v23 w12 fun v24 =>
  PureV P (faddrS 30 v1 4) fun v25 =>
  LoadV P 4 v25 w12 fun v26 =>
  Sp P 17 [v2, v20, v22, v24, v26] w12 fun v27 w13 =>
  Sp P 16 [v2, a2, a3] w13 fun v28 w14 =>
  PureV P (extrS v28 0) fun v29 =>
  PureV P (extrS v28 1) fun v30 =>
  RunV P (allocS 46 true (.tuple #[])) w14 fun v31 w15 =>
  StoreV P 46 v31 v29 w15 fun w16 =>
  PureV P (faddrS 30 v1 1) fun v32 =>
  LoadV P 9 v32 w16 fun v33 =>
  PureV P (eqS .eql 9 false v33 a2) fun v34 =>
  GuardV v34 false (fun J => LoadV P 46 v17 w16 fun v36 => J v36 w16) w16 fun v35 w17 =>
  GuardV v34 false (fun J => LoadV P 46 v31 w17 fun v38 => J v38 w17) w17 fun v37 w18 =>
  GuardV v34 false (fun J => PureV P (eqS .eql 46 false v35 v37) fun v40 => J v40 w18) w18 fun v39 w19 =>
  GuardV v34 false (fun J => J v39 w19) w19 fun v41 w20 =>
  GuardV v41 true (fun J => J v16 w20) w20 fun v42 w21 =>
  GuardV v41 true (fun J => J v30 w21) w21 fun v43 w22 =>
  GuardV v41 true (fun J => PureV P (eqS .eql 4 false v42 v43) fun v45 => J v45 w22) w22 fun v44 w23 =>
  GuardV v34 false (fun J => PureV P (pickS v41 v44 (.bool false)) fun v47 => J v47 w23) w23 fun v46 w24 =>
  GuardV v34 false (fun J => J v46 w24) w24 fun v48 w25 =>
  GuardV v48 true (fun J => J v18 w25) w25 fun v49 w26 =>
  GuardV v48 true (fun J => J v2 w26) w26 fun v50 w27 =>
  GuardV v48 true (fun J => J a2 w27) w27 fun v51 w28 =>
  GuardV v48 true (fun J => Sp P 10 [v50, v51] w28 J) w28 fun v52 w29 =>
  GuardV v48 true (fun J => PureV P (eqS .eql 37 false v49 v52) fun v54 => J v54 w29) w29 fun v53 w30 =>
  GuardV v34 false (fun J => PureV P (pickS v48 v53 (.bool false)) fun v56 => J v56 w30) w30 fun v55 w31 =>
  PureV P (pickS v34 (.bool true) v55) fun v57 =>
  GuardV v57 true (fun J => Sp P 15 [] w31 J) w31 fun v58 w32 =>
  PureV P (pickS v57 v58 (.bool false)) fun v59 =>
  R v59 w32)
theorem hb_sautoirlaw10_SpaceApart : HasBody Try.prog 4 = true := by kernel_rfl
theorem ok_sautoirlaw10_SpaceApart : codeOK 86 77371252455336267181195263 ((Try.f4.body).getD .skip) (.node .nil (.node .nil (.node (.node .nil (.node (.loop 34351355904 [23] .nil) .nil)) .nil))) = true := by kernel_rfl
theorem eq_sautoirlaw10_SpaceApart {a0 a1 a2 a3 : Value} (w : World) (R : Value → World → Prop) : wpA Try.prog ((Try.f4.body).getD .skip) (.node .nil (.node .nil (.node (.node .nil (.node (.loop 34351355904 [23] .nil) .nil)) .nil))) (retE Try.prog Try.f4.results R) (envA [a0, a1, a2, a3]) w = VC_sautoirlaw10_SpaceApart Try.prog a0 a1 a2 a3 w R := by kernel_rfl
theorem vc_sautoirlaw10_SpaceApart {a0 a1 a2 a3 : Value} {w : World} {R : Value → World → Prop} (h : VC_sautoirlaw10_SpaceApart Try.prog a0 a1 a2 a3 w R) : Sp Try.prog 4 [a0, a1, a2, a3] w R :=
  spec_of Try.func4 (c := (Try.f4.body).getD .skip) rfl hb_sautoirlaw10_SpaceApart mixed _ _ ok_sautoirlaw10_SpaceApart (by simp [Try.ntmps4]) (by rw [eq_sautoirlaw10_SpaceApart]; exact h)

/-- function 5: sautoir/sautoirlaw10.SpaceSame -/
def VC_sautoirlaw10_SpaceSame (P : Program) (a0 a1 : Value) (w : World) (R : Value → World → Prop) : Prop :=
  Sp P 7 [] w fun v1 w1 =>
  PureV P (buildS 28 #[]) fun v2 =>
  RunV P (boxS 28 v2) w1 fun v3 w2 =>
  Sp P 7 [] w2 fun v4 w3 =>
  PureV P (buildS 28 #[]) fun v5 =>
  RunV P (boxS 28 v5) w3 fun v6 w4 =>
  ReadV P (lenS #[22] 3 #[a0]) w4 fun v7 =>
  LoopP [24] [(.int .i64 0)] w4 fun H1 m1 w5 =>
  PureV P (binS .lss 3 (m1 24) v7) fun v8 =>
  IfP v8
  (Join (fun J2 : World → Prop =>
  PureV P (iaddrS 22 a0 (m1 24)) fun v9 =>
  LoadV P 30 v9 w5 fun v10 =>
  RunV P (allocS 30 true (.tuple #[])) w5 fun v11 w6 =>
  StoreV P 30 v11 v10 w6 fun w7 =>
  PureV P (binS .lss 3 (m1 24) (.int .i64 12)) fun v12 =>
  IfP v12
  (LoadV P 30 v11 w7 fun v13 =>
  Sp P 8 [v1, v3, v13] w7 fun v14 w8 =>
  J2 w8)
  (J2 w7))
  (fun w9 =>
  PureV P (binS .add 3 (m1 24) (.int .i64 1)) fun v15 =>
  H1 [v15] w9))
  (ReadV P (lenS #[22] 3 #[a1]) w5 fun v16 =>
  LoopP [38] [(.int .i64 0)] w5 fun H3 m3 w10 =>
  PureV P (binS .lss 3 (m3 38) v16) fun v17 =>
  IfP v17
  (Join (fun J4 : World → Prop =>
  PureV P (iaddrS 22 a1 (m3 38)) fun v18 =>
  LoadV P 30 v18 w10 fun v19 =>
  RunV P (allocS 30 true (.tuple #[])) w10 fun v20 w11 =>
  StoreV P 30 v20 v19 w11 fun w12 =>
  PureV P (binS .lss 3 (m3 38) (.int .i64 12)) fun v21 =>
  IfP v21
  (LoadV P 30 v20 w12 fun v22 =>
  Sp P 8 [v4, v6, v22] w12 fun v23 w13 =>
  J4 w13)
  (J4 w12))
  (fun w14 =>
  PureV P (binS .add 3 (m3 38) (.int .i64 1)) fun v24 =>
  H3 [v24] w14))
  (PureV P (nilS v3) fun v25 =>
  PureV P (faddrS 28 v25 0) fun v26 =>
  LoadV P 26 v26 (World.drew w10) fun v27 =>
  ReadV P (lenS #[26] 3 #[v27]) (World.drew w10) fun v28 =>
  PureV P (nilS v6) fun v29 =>
  PureV P (faddrS 28 v29 0) fun v30 =>
  LoadV P 26 v30 (World.drew w10) fun v31 =>
  ReadV P (lenS #[26] 3 #[v31]) (World.drew w10) fun v32 =>
  PureV P (eqS .eql 3 false v28 v32) fun v33 =>
  PureV P (nilS v3) fun v34 =>
  PureV P (faddrS 28 v34 0) fun v35 =>
  LoadV P 26 v35 (World.drew w10) fun v36 =>
  ReadV P (lenS #[26] 3 #[v36]) (World.drew w10) fun v37 =>
  LoopP [13, 66] [v33, (.int .i64 0)] (World.drew w10) fun H5 m5 w15 =>
  PureV P (binS .lss 3 (m5 66) v37) fun v38 =>
  IfP v38
  (PureV P (iaddrS 26 v36 (m5 66)) fun v39 =>
  LoadV P 36 v39 w15 fun v40 =>
  RunV P (allocS 36 true (.tuple #[])) w15 fun v41 w16 =>
  StoreV P 36 v41 v40 w16 fun w17 =>
  GuardV (m5 13) true (fun J => PureV P (faddrS 36 v41 0) fun v43 => J v43 (World.drew w17)) (World.drew w17) fun v42 _ =>
  GuardV (m5 13) true (fun J => LoadV P 9 v42 (World.drew w17) fun v45 => J v45 (World.drew w17)) (World.drew w17) fun v44 _ =>
  GuardV (m5 13) true (fun J => J v6 (World.drew w17)) (World.drew w17) fun v46 _ =>
  GuardV (m5 13) true (fun J => PureV P (nilS v46) fun v48 => J v48 (World.drew w17)) (World.drew w17) fun v47 _ =>
  GuardV (m5 13) true (fun J => PureV P (faddrS 28 v47 0) fun v50 => J v50 (World.drew w17)) (World.drew w17) fun v49 _ =>
  GuardV (m5 13) true (fun J => LoadV P 26 v49 (World.drew w17) fun v52 => J v52 (World.drew w17)) (World.drew w17) fun v51 _ =>
  GuardV (m5 13) true (fun J => J (m5 66) (World.drew w17)) (World.drew w17) fun v53 _ =>
  GuardV (m5 13) true (fun J => PureV P (iaddrS 26 v51 v53) fun v55 => J v55 (World.drew w17)) (World.drew w17) fun v54 _ =>
  GuardV (m5 13) true (fun J => PureV P (faddrS 36 v54 0) fun v57 => J v57 (World.drew w17)) (World.drew w17) fun v56 _ =>
  GuardV (m5 13) true (fun J => LoadV P 9 v56 (World.drew w17) fun v59 => J v59 (World.drew w17)) (World.drew w17) fun v58 _ =>
  GuardV (m5 13) true (fun J => PureV P (eqS .eql 9 false v44 v58) fun v61 => J v61 (World.drew w17)) (World.drew w17) fun v60 _ =>
  PureV P (pickS (m5 13) v60 (.bool false)) fun v62 =>
  GuardV v62 true (fun J => PureV P (faddrS 36 v41 1) fun v64 => J v64 (World.drew w17)) (World.drew w17) fun v63 _ =>
  GuardV v62 true (fun J => LoadV P 34 v63 (World.drew w17) fun v66 => J v66 (World.drew w17)) (World.drew w17) fun v65 _ =>
  GuardV v62 true (fun J => J v6 (World.drew w17)) (World.drew w17) fun v67 _ =>
  GuardV v62 true (fun J => PureV P (nilS v67) fun v69 => J v69 (World.drew w17)) (World.drew w17) fun v68 _ =>
  GuardV v62 true (fun J => PureV P (faddrS 28 v68 0) fun v71 => J v71 (World.drew w17)) (World.drew w17) fun v70 _ =>
  GuardV v62 true (fun J => LoadV P 26 v70 (World.drew w17) fun v73 => J v73 (World.drew w17)) (World.drew w17) fun v72 _ =>
  GuardV v62 true (fun J => J (m5 66) (World.drew w17)) (World.drew w17) fun v74 _ =>
  GuardV v62 true (fun J => PureV P (iaddrS 26 v72 v74) fun v76 => J v76 (World.drew w17)) (World.drew w17) fun v75 _ =>
  GuardV v62 true (fun J => PureV P (faddrS 36 v75 1) fun v78 => J v78 (World.drew w17)) (World.drew w17) fun v77 _ =>
  GuardV v62 true (fun J => LoadV P 34 v77 (World.drew w17) fun v80 => J v80 (World.drew w17)) (World.drew w17) fun v79 _ =>
  GuardV v62 true (fun J => Sp P 18 [v65, v79] (World.drew w17) J) (World.drew w17) fun v81 w18 =>
  PureV P (pickS v62 v81 (.bool false)) fun v82 =>
  PureV P (binS .add 3 (m5 66) (.int .i64 1)) fun v83 =>
  H5 [v82, v83] w18)
  (Sp P 19 [v1, v4] w15 fun v84 w19 =>
  PureV P (eqS .eql 4 false v84 (m5 13)) fun v85 =>
  GuardV v85 true (fun J => J v1 w19) w19 fun v86 w20 =>
  GuardV v85 true (fun J => J v1 w20) w20 fun v87 w21 =>
  GuardV v85 true (fun J => Sp P 19 [v86, v87] w21 J) w21 fun v88 w22 =>
  PureV P (pickS v85 v88 (.bool false)) fun v89 =>
  GuardV v89 true (fun J => Sp P 7 [] w22 J) w22 fun v90 w23 =>
  GuardV v89 true (fun J => Sp P 19 [(.pointer none), v90] w23 J) w23 fun v91 w24 =>
  PureV P (pickS v89 v91 (.bool false)) fun v92 =>
  GuardV v92 true (fun J => Sp P 15 [] w24 J) w24 fun v93 w25 =>
  PureV P (pickS v92 v93 (.bool false)) fun v94 =>
  R v94 w25)))
theorem hb_sautoirlaw10_SpaceSame : HasBody Try.prog 5 = true := by kernel_rfl
theorem ok_sautoirlaw10_SpaceSame : codeOK 116 83076749736557242056487941267521535 ((Try.f5.body).getD .skip) (.node .nil (.node .nil (.node .nil (.node (.node .nil (.node (.loop 68702701056 [24] .nil) .nil)) (.node (.node .nil (.node (.loop 1125625028941824 [38] .nil) .nil)) (.node (.draw [0, 1, 3, 7, 15, 0, 32, 96, 224, 480, 1023, 2047] (.rd 0 (.rd 1 (.rd 2 (.rd 3 (.rd 4 (.rd 5 (.rd 6 (.rd 7 (.rd 8 (.rd 9 (.rd 10 (.rd 11 .done))))))))))))) (.node (.node .nil (.node (.loop 633825300040327724453513453568 [13, 66] (.node .nil (.node .nil (.node (.node (.node .nil (.draw [0, 1, 3, 7, 3, 19, 51, 115, 3, 499, 1011, 2035, 4095, 8191, 16383, 32767, 65535, 32767, 163839, 425983, 950271, 32767, 4095999, 8290303, 16678911, 33554431, 67108863, 134217727] (.rd 0 (.rd 1 (.rd 2 (.rd 3 (.rd 4 (.rd 5 (.rd 6 (.rd 7 (.rd 8 (.rd 9 (.rd 10 (.rd 11 (.rd 12 (.rd 13 (.rd 14 (.rd 15 (.rd 16 (.rd 17 (.rd 18 (.rd 19 (.rd 20 (.rd 21 (.rd 22 (.rd 23 (.rd 24 (.imp 25 [] (.rd 26 (.imp 27 [] .done)))))))))))))))))))))))))))))) .nil) .nil)))) .nil)) .nil))))))) = true := by kernel_rfl
theorem eq_sautoirlaw10_SpaceSame {a0 a1 : Value} (w : World) (R : Value → World → Prop) : wpA Try.prog ((Try.f5.body).getD .skip) (.node .nil (.node .nil (.node .nil (.node (.node .nil (.node (.loop 68702701056 [24] .nil) .nil)) (.node (.node .nil (.node (.loop 1125625028941824 [38] .nil) .nil)) (.node (.draw [0, 1, 3, 7, 15, 0, 32, 96, 224, 480, 1023, 2047] (.rd 0 (.rd 1 (.rd 2 (.rd 3 (.rd 4 (.rd 5 (.rd 6 (.rd 7 (.rd 8 (.rd 9 (.rd 10 (.rd 11 .done))))))))))))) (.node (.node .nil (.node (.loop 633825300040327724453513453568 [13, 66] (.node .nil (.node .nil (.node (.node (.node .nil (.draw [0, 1, 3, 7, 3, 19, 51, 115, 3, 499, 1011, 2035, 4095, 8191, 16383, 32767, 65535, 32767, 163839, 425983, 950271, 32767, 4095999, 8290303, 16678911, 33554431, 67108863, 134217727] (.rd 0 (.rd 1 (.rd 2 (.rd 3 (.rd 4 (.rd 5 (.rd 6 (.rd 7 (.rd 8 (.rd 9 (.rd 10 (.rd 11 (.rd 12 (.rd 13 (.rd 14 (.rd 15 (.rd 16 (.rd 17 (.rd 18 (.rd 19 (.rd 20 (.rd 21 (.rd 22 (.rd 23 (.rd 24 (.imp 25 [] (.rd 26 (.imp 27 [] .done)))))))))))))))))))))))))))))) .nil) .nil)))) .nil)) .nil))))))) (retE Try.prog Try.f5.results R) (envA [a0, a1]) w = VC_sautoirlaw10_SpaceSame Try.prog a0 a1 w R := by kernel_rfl
theorem vc_sautoirlaw10_SpaceSame {a0 a1 : Value} {w : World} {R : Value → World → Prop} (h : VC_sautoirlaw10_SpaceSame Try.prog a0 a1 w R) : Sp Try.prog 5 [a0, a1] w R :=
  spec_of Try.func5 (c := (Try.f5.body).getD .skip) rfl hb_sautoirlaw10_SpaceSame mixed _ _ ok_sautoirlaw10_SpaceSame (by simp [Try.ntmps5]) (by rw [eq_sautoirlaw10_SpaceSame]; exact h)

/-- function 7: sautoir/space.New -/
def VC_space_New (P : Program) (w : World) (R : Value → World → Prop) : Prop :=
  RunV P (mkmapS 65 none) w fun v1 w1 =>
  PureV P (buildS 67 #[(0, v1)]) fun v2 =>
  RunV P (boxS 67 v2) w1 fun v3 w2 =>
  R v3 w2
theorem hb_space_New : HasBody Try.prog 7 = true := by kernel_rfl
theorem ok_space_New : codeOK 4 15 ((Try.f7.body).getD .skip) .nil = true := by kernel_rfl
theorem eq_space_New (w : World) (R : Value → World → Prop) : wpA Try.prog ((Try.f7.body).getD .skip) .nil (retE Try.prog Try.f7.results R) (envA []) w = VC_space_New Try.prog w R := by kernel_rfl
theorem vc_space_New {w : World} {R : Value → World → Prop} (h : VC_space_New Try.prog w R) : Sp Try.prog 7 [] w R :=
  spec_of Try.func7 (c := (Try.f7.body).getD .skip) rfl hb_space_New mixed _ _ ok_space_New (by simp [Try.ntmps7]) (by rw [eq_space_New]; exact h)

/-- function 8: sautoir/sautoirlaw10.step -/
def VC_sautoirlaw10_step (P : Program) (a0 a1 a2 : Value) (w : World) (R : Value → World → Prop) : Prop :=
  RunV P (boxS 30 a2) w fun v1 w1 =>
  Join (fun J1 : World → Prop =>
  PureV P (faddrS 30 v1 1) fun v2 =>
  LoadV P 9 v2 w1 fun v3 =>
  ReadV P (lenS #[9] 3 #[v3]) w1 fun v4 =>
  PureV P (binS .gtr 3 v4 (.int .i64 40)) fun v5 =>
  IfP v5
  (PureV P (faddrS 30 v1 1) fun v6 =>
  LoadV P 9 v6 w1 fun v7 =>
  PureV P (sliceS 9 v7 none (some (.int .i64 40)) none) fun v8 =>
  PureV P (faddrS 30 v1 1) fun v9 =>
  StoreV P 9 v9 v8 w1 fun w2 =>
  J1 w2)
  (J1 w1))
  (fun w3 =>
  Join (fun J2 : World → Prop =>
  PureV P (faddrS 30 v1 3) fun v10 =>
  LoadV P 9 v10 w3 fun v11 =>
  ReadV P (lenS #[9] 3 #[v11]) w3 fun v12 =>
  PureV P (binS .gtr 3 v12 (.int .i64 70)) fun v13 =>
  IfP v13
  (PureV P (faddrS 30 v1 3) fun v14 =>
  LoadV P 9 v14 w3 fun v15 =>
  PureV P (sliceS 9 v15 none (some (.int .i64 70)) none) fun v16 =>
  PureV P (faddrS 30 v1 3) fun v17 =>
  StoreV P 9 v17 v16 w3 fun w4 =>
  J2 w4)
  (J2 w3))
  (fun w5 =>
  Join (fun J3 : World → Prop =>
  PureV P (faddrS 30 v1 0) fun v18 =>
  LoadV P 3 v18 w5 fun v19 =>
  Join (fun J4 : Value → World → Prop =>
  PureV P (eqS .eql 3 true v19 (.int .i64 0)) fun v20 =>
  IfP v20
  (J4 v20 w5)
  (PureV P (eqS .eql 3 true v19 (.int .i64 1)) fun v21 =>
  IfP v21
  (J4 v21 w5)
  (PureV P (eqS .eql 3 true v19 (.int .i64 2)) fun v22 =>
  IfP v22
  (J4 v22 w5)
  (PureV P (eqS .eql 3 true v19 (.int .i64 3)) fun v23 =>
  J4 v23 w5))))
  (fun v24 w6 =>
  IfP v24
  (PureV P (faddrS 30 v1 1) fun v25 =>
  LoadV P 9 v25 (World.drew w6) fun v26 =>
  PureV P (faddrS 30 v1 2) fun v27 =>
  LoadV P 3 v27 (World.drew w6) fun v28 =>
  PureV P (faddrS 30 v1 3) fun v29 =>
  LoadV P 9 v29 (World.drew w6) fun v30 =>
  PureV P (faddrS 30 v1 4) fun v31 =>
  LoadV P 4 v31 (World.drew w6) fun v32 =>
  PureV P (faddrS 30 v1 1) fun v33 =>
  LoadV P 9 v33 (World.drew w6) fun v34 =>
  PureV P (faddrS 30 v1 2) fun v35 =>
  LoadV P 3 v35 (World.drew w6) fun v36 =>
  PureV P (faddrS 30 v1 3) fun v37 =>
  LoadV P 9 v37 (World.drew w6) fun v38 =>
  PureV P (faddrS 30 v1 4) fun v39 =>
  LoadV P 4 v39 (World.drew w6) fun v40 =>
  Sp P 17 [a0, v26, v28, v30, v32] (World.drew w6) fun v41 w7 =>
  loadO P 4 v39 w7 = some v40 ∧
  loadO P 9 v37 w7 = some v38 ∧
  loadO P 3 v35 w7 = some v36 ∧
  loadO P 9 v33 w7 = some v34 ∧
  Sp P 25 [a1, v34, v36, v38, v40] w7 fun v42 w8 =>
  PureV P (eqS .eql 49 false v41 v42) fun v43 =>
  R v43 w8)
  (PureV P (eqS .eql 3 true v19 (.int .i64 4)) fun v44 =>
  IfP v44
  (PureV P (faddrS 30 v1 2) fun v45 =>
  LoadV P 3 v45 w6 fun v46 =>
  Sp P 26 [a0, v46] w6 fun v47 w9 =>
  PureV P (faddrS 30 v1 2) fun v48 =>
  LoadV P 3 v48 w9 fun v49 =>
  Sp P 27 [a1, v49] w9 fun v50 w10 =>
  J3 w10)
  (PureV P (eqS .eql 3 true v19 (.int .i64 5)) fun v51 =>
  IfP v51
  (PureV P (faddrS 30 v1 2) fun v52 =>
  LoadV P 3 v52 w6 fun v53 =>
  Sp P 28 [a0, v53] w6 fun v54 w11 =>
  PureV P (faddrS 30 v1 2) fun v55 =>
  LoadV P 3 v55 w11 fun v56 =>
  Sp P 29 [a1, v56] w11 fun v57 w12 =>
  J3 w12)
  (J3 w6)))))
  (fun w13 =>
  R (.bool true) w13)))
theorem hb_sautoirlaw10_step : HasBody Try.prog 8 = true := by kernel_rfl
theorem ok_sautoirlaw10_step : codeOK 71 2361183241434822606847 ((Try.f8.body).getD .skip) (.node .nil (.node .nil (.node .nil (.node (.node .nil (.node (.node .nil (.node (.node (.draw [0, 0, 2, 0, 8, 0, 32, 0, 128, 511, 0, 0, 2048, 0, 8192, 0, 32768, 0, 131072, 524287, 1048575, 2097151] (.rd 0 (.rd 1 (.rd 2 (.rd 3 (.rd 4 (.rd 5 (.rd 6 (.rd 7 (.rd 8 (.rd 10 (.rd 11 (.rd 12 (.rd 13 (.rd 14 (.rd 15 (.rd 16 (.rd 17 (.rd 18 (.imp 9 [18, 16, 14, 12] (.imp 19 [] (.rd 20 (.rd 21 .done))))))))))))))))))))))) .nil) .nil)) .nil)) .nil)))) = true := by kernel_rfl
theorem eq_sautoirlaw10_step {a0 a1 a2 : Value} (w : World) (R : Value → World → Prop) : wpA Try.prog ((Try.f8.body).getD .skip) (.node .nil (.node .nil (.node .nil (.node (.node .nil (.node (.node .nil (.node (.node (.draw [0, 0, 2, 0, 8, 0, 32, 0, 128, 511, 0, 0, 2048, 0, 8192, 0, 32768, 0, 131072, 524287, 1048575, 2097151] (.rd 0 (.rd 1 (.rd 2 (.rd 3 (.rd 4 (.rd 5 (.rd 6 (.rd 7 (.rd 8 (.rd 10 (.rd 11 (.rd 12 (.rd 13 (.rd 14 (.rd 15 (.rd 16 (.rd 17 (.rd 18 (.imp 9 [18, 16, 14, 12] (.imp 19 [] (.rd 20 (.rd 21 .done))))))))))))))))))))))) .nil) .nil)) .nil)) .nil)))) (retE Try.prog Try.f8.results R) (envA [a0, a1, a2]) w = VC_sautoirlaw10_step Try.prog a0 a1 a2 w R := by kernel_rfl
theorem vc_sautoirlaw10_step {a0 a1 a2 : Value} {w : World} {R : Value → World → Prop} (h : VC_sautoirlaw10_step Try.prog a0 a1 a2 w R) : Sp Try.prog 8 [a0, a1, a2] w R :=
  spec_of Try.func8 (c := (Try.f8.body).getD .skip) rfl hb_sautoirlaw10_step mixed _ _ ok_sautoirlaw10_step (by simp [Try.ntmps8]) (by rw [eq_sautoirlaw10_step]; exact h)

/-- function 9: sautoir/sautoirlaw10.reads -/
def VC_sautoirlaw10_reads (P : Program) (a0 a1 a2 a3 : Value) (w : World) (R : Value → World → Prop) : Prop :=
  Sp P 16 [a0, a2, a3] w fun v1 w1 =>
  PureV P (extrS v1 0) fun v2 =>
  PureV P (extrS v1 1) fun v3 =>
  RunV P (allocS 46 true (.tuple #[])) w1 fun v4 w2 =>
  StoreV P 46 v4 v2 w2 fun w3 =>
  Sp P 31 [a1, a2] w3 fun v5 w4 =>
  Sp P 30 [v5, a3] w4 fun v6 w5 =>
  PureV P (extrS v6 0) fun v7 =>
  PureV P (extrS v6 1) fun v8 =>
  RunV P (allocS 40 true (.tuple #[])) w5 fun v9 w6 =>
  StoreV P 40 v9 v7 w6 fun w7 =>
  PureV P (eqS .eql 4 false v3 v8) fun v10 =>
  GuardV v10 true (fun J => LoadV P 46 v4 w7 fun v12 => J v12 w7) w7 fun v11 w8 =>
  GuardV v10 true (fun J => PureV P (faddrS 40 v9 0) fun v14 => J v14 w8) w8 fun v13 w9 =>
  GuardV v10 true (fun J => LoadV P 3 v13 w9 fun v16 => J v16 w9) w9 fun v15 w10 =>
  GuardV v10 true (fun J => PureV P (faddrS 40 v9 1) fun v18 => J v18 w10) w10 fun v17 w11 =>
  GuardV v10 true (fun J => LoadV P 37 v17 w11 fun v20 => J v20 w11) w11 fun v19 w12 =>
  GuardV v10 true (fun J => PureV P (faddrS 40 v9 2) fun v22 => J v22 w12) w12 fun v21 w13 =>
  GuardV v10 true (fun J => LoadV P 9 v21 w13 fun v24 => J v24 w13) w13 fun v23 w14 =>
  GuardV v10 true (fun J => PureV P (faddrS 40 v9 3) fun v26 => J v26 w14) w14 fun v25 w15 =>
  GuardV v10 true (fun J => LoadV P 4 v25 w15 fun v28 => J v28 w15) w15 fun v27 w16 =>
  GuardV v10 true (fun J => PureV P (buildS 46 #[(0, v15), (1, v19), (2, v23), (3, v27)]) fun v30 => J v30 w16) w16 fun v29 w17 =>
  GuardV v10 true (fun J => PureV P (eqS .eql 46 false v11 v29) fun v32 => J v32 w17) w17 fun v31 w18 =>
  PureV P (pickS v10 v31 (.bool false)) fun v33 =>
  R v33 w18
theorem hb_sautoirlaw10_reads : HasBody Try.prog 9 = true := by kernel_rfl
theorem ok_sautoirlaw10_reads : codeOK 44 17592186044415 ((Try.f9.body).getD .skip) .nil = true := by kernel_rfl
theorem eq_sautoirlaw10_reads {a0 a1 a2 a3 : Value} (w : World) (R : Value → World → Prop) : wpA Try.prog ((Try.f9.body).getD .skip) .nil (retE Try.prog Try.f9.results R) (envA [a0, a1, a2, a3]) w = VC_sautoirlaw10_reads Try.prog a0 a1 a2 a3 w R := by kernel_rfl
theorem vc_sautoirlaw10_reads {a0 a1 a2 a3 : Value} {w : World} {R : Value → World → Prop} (h : VC_sautoirlaw10_reads Try.prog a0 a1 a2 a3 w R) : Sp Try.prog 9 [a0, a1, a2, a3] w R :=
  spec_of Try.func9 (c := (Try.f9.body).getD .skip) rfl hb_sautoirlaw10_reads mixed _ _ ok_sautoirlaw10_reads (by simp [Try.ntmps9]) (by rw [eq_sautoirlaw10_reads]; exact h)

/-- function 10: (*sautoir/space.Space).Num -/
def VC_space_Space_Num (P : Program) (a0 a1 : Value) (w : World) (R : Value → World → Prop) : Prop :=
  PureV P (eqS .eql 23 true a0 (.pointer none)) fun v1 =>
  IfP v1
  (R (.int .u64 0) w)
  (PureV P (nilS a0) fun v2 =>
  PureV P (faddrS 67 v2 0) fun v3 =>
  LoadV P 65 v3 w fun v4 =>
  ReadV P (lookS 65 v4 a1 false) w fun v5 =>
  Sp P 32 [v5] w fun v6 w1 =>
  PureV P (fieldS 46 v6 1) fun v7 =>
  R v7 w1)
theorem hb_space_Space_Num : HasBody Try.prog 10 = true := by kernel_rfl
theorem ok_space_Space_Num : codeOK 15 32767 ((Try.f10.body).getD .skip) .nil = true := by kernel_rfl
theorem eq_space_Space_Num {a0 a1 : Value} (w : World) (R : Value → World → Prop) : wpA Try.prog ((Try.f10.body).getD .skip) .nil (retE Try.prog Try.f10.results R) (envA [a0, a1]) w = VC_space_Space_Num Try.prog a0 a1 w R := by kernel_rfl
theorem vc_space_Space_Num {a0 a1 : Value} {w : World} {R : Value → World → Prop} (h : VC_space_Space_Num Try.prog a0 a1 w R) : Sp Try.prog 10 [a0, a1] w R :=
  spec_of Try.func10 (c := (Try.f10.body).getD .skip) rfl hb_space_Space_Num mixed _ _ ok_space_Space_Num (by simp [Try.ntmps10]) (by rw [eq_space_Space_Num]; exact h)

/-- function 11: sautoir/sautoirlaw10.Keys -/
def VC_sautoirlaw10_Keys (P : Program) (a0 a1 : Value) (w : World) (R : Value → World → Prop) : Prop :=
  ReadV P (lenS #[33] 3 #[a0]) w fun v1 =>
  ReadV P (lenS #[33] 3 #[a1]) w fun v2 =>
  PureV P (eqS .neq 3 false v1 v2) fun v3 =>
  IfP v3
  (R (.bool false) w)
  (ReadV P (lenS #[33] 3 #[a1]) w fun v4 =>
  LoopP [13] [(.int .i64 0)] w fun H1 m1 w1 =>
  PureV P (binS .lss 3 (m1 13) v4) fun v5 =>
  IfP v5
  (PureV P (iaddrS 33 a0 (m1 13)) fun v6 =>
  LoadV P 9 v6 (World.drew w1) fun v7 =>
  PureV P (iaddrS 33 a1 (m1 13)) fun v8 =>
  LoadV P 9 v8 (World.drew w1) fun v9 =>
  PureV P (eqS .neq 9 false v7 v9) fun v10 =>
  IfP v10
  (R (.bool false) (World.drew w1))
  (PureV P (binS .add 3 (m1 13) (.int .i64 1)) fun v11 =>
  H1 [v11] (World.drew w1)))
  (R (.bool true) w1))
theorem hb_sautoirlaw10_Keys : HasBody Try.prog 11 = true := by kernel_rfl
theorem ok_sautoirlaw10_Keys : codeOK 26 67108863 ((Try.f11.body).getD .skip) (.node .nil (.node .nil (.node (.node .nil (.node (.loop 67100720 [13] (.node .nil (.node .nil (.node (.node (.node .nil (.node (.draw [0, 0, 3, 7, 0, 0, 48, 112, 255] (.rd 0 (.rd 1 (.rd 2 (.rd 3 (.rd 4 (.rd 5 (.rd 6 (.rd 7 (.rd 8 .done)))))))))) .nil)) .nil) .nil)))) .nil)) .nil))) = true := by kernel_rfl
theorem eq_sautoirlaw10_Keys {a0 a1 : Value} (w : World) (R : Value → World → Prop) : wpA Try.prog ((Try.f11.body).getD .skip) (.node .nil (.node .nil (.node (.node .nil (.node (.loop 67100720 [13] (.node .nil (.node .nil (.node (.node (.node .nil (.node (.draw [0, 0, 3, 7, 0, 0, 48, 112, 255] (.rd 0 (.rd 1 (.rd 2 (.rd 3 (.rd 4 (.rd 5 (.rd 6 (.rd 7 (.rd 8 .done)))))))))) .nil)) .nil) .nil)))) .nil)) .nil))) (retE Try.prog Try.f11.results R) (envA [a0, a1]) w = VC_sautoirlaw10_Keys Try.prog a0 a1 w R := by kernel_rfl
theorem vc_sautoirlaw10_Keys {a0 a1 : Value} {w : World} {R : Value → World → Prop} (h : VC_sautoirlaw10_Keys Try.prog a0 a1 w R) : Sp Try.prog 11 [a0, a1] w R :=
  spec_of Try.func11 (c := (Try.f11.body).getD .skip) rfl hb_sautoirlaw10_Keys mixed _ _ ok_sautoirlaw10_Keys (by simp [Try.ntmps11]) (by rw [eq_sautoirlaw10_Keys]; exact h)

/-- function 12: (*sautoir/space.Space).Keys -/
def VC_space_Space_Keys (P : Program) (a0 : Value) (w : World) (R : Value → World → Prop) : Prop :=
  PureV P (eqS .eql 23 true a0 (.pointer none)) fun v1 =>
  IfP v1
  (R (.slice none 0 0) w)
  (PureV P (nilS a0) fun v2 =>
  PureV P (faddrS 67 v2 0) fun v3 =>
  LoadV P 65 v3 w fun v4 =>
  Sp P 34 [v4] w fun v5 w1 =>
  Sp P 33 [v5] w1 fun v6 w2 =>
  R v6 w2)
theorem hb_space_Space_Keys : HasBody Try.prog 12 = true := by kernel_rfl
theorem ok_space_Space_Keys : codeOK 11 2047 ((Try.f12.body).getD .skip) .nil = true := by kernel_rfl
theorem eq_space_Space_Keys {a0 : Value} (w : World) (R : Value → World → Prop) : wpA Try.prog ((Try.f12.body).getD .skip) .nil (retE Try.prog Try.f12.results R) (envA [a0]) w = VC_space_Space_Keys Try.prog a0 w R := by kernel_rfl
theorem vc_space_Space_Keys {a0 : Value} {w : World} {R : Value → World → Prop} (h : VC_space_Space_Keys Try.prog a0 w R) : Sp Try.prog 12 [a0] w R :=
  spec_of Try.func12 (c := (Try.f12.body).getD .skip) rfl hb_space_Space_Keys mixed _ _ ok_space_Space_Keys (by simp [Try.ntmps12]) (by rw [eq_space_Space_Keys]; exact h)

/-- function 13: (*sautoir/space.Space).Dirty -/
def VC_space_Space_Dirty (P : Program) (a0 a1 : Value) (w : World) (R : Value → World → Prop) : Prop :=
  Sp P 12 [a0] w fun v1 w1 =>
  ReadV P (lenS #[33] 3 #[v1]) w1 fun v2 =>
  LoopP [5, 11] [(.slice none 0 0), (.int .i64 0)] w1 fun H1 m1 w2 =>
  PureV P (binS .lss 3 (m1 11) v2) fun v3 =>
  IfP v3
  (Join (fun J2 : Value → World → Prop =>
  PureV P (iaddrS 33 v1 (m1 11)) fun v4 =>
  LoadV P 9 v4 w2 fun v5 =>
  PureV P (nilS a0) fun v6 =>
  PureV P (faddrS 67 v6 0) fun v7 =>
  LoadV P 65 v7 w2 fun v8 =>
  ReadV P (lookS 65 v8 v5 false) w2 fun v9 =>
  Sp P 35 [v9, a1] w2 fun v10 w3 =>
  IfP v10
  (RunV P (bsliceS 33 1 #[(0, v5)]) w3 fun v11 w4 =>
  RunV P (appS #[33, 33] 33 #[(m1 5), v11]) w4 fun v12 w5 =>
  J2 v12 w5)
  (J2 (m1 5) w3))
  (fun v13 w6 =>
  PureV P (binS .add 3 (m1 11) (.int .i64 1)) fun v14 =>
  H1 [v13, v14] w6))
  (R (m1 5) w2)
theorem hb_space_Space_Dirty : HasBody Try.prog 13 = true := by kernel_rfl
theorem ok_space_Space_Dirty : codeOK 29 536870911 ((Try.f13.body).getD .skip) (.node .nil (.node .nil (.node (.node .nil (.node (.loop 268433568 [5, 11] .nil) .nil)) .nil))) = true := by kernel_rfl
theorem eq_space_Space_Dirty {a0 a1 : Value} (w : World) (R : Value → World → Prop) : wpA Try.prog ((Try.f13.body).getD .skip) (.node .nil (.node .nil (.node (.node .nil (.node (.loop 268433568 [5, 11] .nil) .nil)) .nil))) (retE Try.prog Try.f13.results R) (envA [a0, a1]) w = VC_space_Space_Dirty Try.prog a0 a1 w R := by kernel_rfl
theorem vc_space_Space_Dirty {a0 a1 : Value} {w : World} {R : Value → World → Prop} (h : VC_space_Space_Dirty Try.prog a0 a1 w R) : Sp Try.prog 13 [a0, a1] w R :=
  spec_of Try.func13 (c := (Try.f13.body).getD .skip) rfl hb_space_Space_Dirty mixed _ _ ok_space_Space_Dirty (by simp [Try.ntmps13]) (by rw [eq_space_Space_Dirty]; exact h)

/-- function 14: (*sautoir/sautoirref10.Space).Dirty -/
def VC_sautoirref10_Space_Dirty (P : Program) (a0 a1 : Value) (w : World) (R : Value → World → Prop) : Prop :=
  PureV P (nilS a0) fun v1 =>
  PureV P (faddrS 28 v1 0) fun v2 =>
  LoadV P 26 v2 w fun v3 =>
  ReadV P (lenS #[26] 3 #[v3]) w fun v4 =>
  LoopP [5, 13] [(.slice none 0 0), (.int .i64 0)] w fun H1 m1 w1 =>
  PureV P (binS .lss 3 (m1 13) v4) fun v5 =>
  IfP v5
  (Join (fun J2 : Value → World → Prop =>
  PureV P (iaddrS 26 v3 (m1 13)) fun v6 =>
  LoadV P 36 v6 w1 fun v7 =>
  RunV P (allocS 36 true (.tuple #[])) w1 fun v8 w2 =>
  StoreV P 36 v8 v7 w2 fun w3 =>
  PureV P (faddrS 36 v8 1) fun v9 =>
  LoadV P 34 v9 (World.drew w3) fun v10 =>
  PureV P (faddrS 36 v8 1) fun v11 =>
  LoadV P 34 v11 (World.drew w3) fun v12 =>
  ReadV P (lenS #[34] 3 #[v12]) (World.drew w3) fun v13 =>
  Sp P 36 [v10, a1] (World.drew w3) fun v14 w4 =>
  Stay P (lenS #[34] 3 #[v12]) v13 w4 ∧
  loadO P 34 v11 w4 = some v12 ∧
  ReadV P (lenS #[34] 3 #[v14]) w4 fun v15 =>
  PureV P (binS .lss 3 v15 v13) fun v16 =>
  IfP v16
  (PureV P (faddrS 36 v8 0) fun v17 =>
  LoadV P 9 v17 w4 fun v18 =>
  RunV P (bsliceS 33 1 #[(0, v18)]) w4 fun v19 w5 =>
  RunV P (appS #[33, 33] 33 #[(m1 5), v19]) w5 fun v20 w6 =>
  J2 v20 w6)
  (J2 (m1 5) w4))
  (fun v21 w7 =>
  PureV P (binS .add 3 (m1 13) (.int .i64 1)) fun v22 =>
  H1 [v21, v22] w7))
  (R (m1 5) w1)
theorem hb_sautoirref10_Space_Dirty : HasBody Try.prog 14 = true := by kernel_rfl
theorem ok_sautoirref10_Space_Dirty : codeOK 33 8589934591 ((Try.f14.body).getD .skip) (.node .nil (.node .nil (.node (.node .nil (.node (.loop 4294959264 [5, 13] (.node .nil (.node .nil (.node (.node (.node .nil (.node (.draw [0, 1, 0, 7, 15, 0, 32, 96, 255] (.rd 0 (.rd 1 (.rd 2 (.rd 5 (.rd 6 (.rd 7 (.imp 3 [7, 6] (.rd 4 (.rd 8 .done)))))))))) .nil)) .nil) .nil)))) .nil)) .nil))) = true := by kernel_rfl
theorem eq_sautoirref10_Space_Dirty {a0 a1 : Value} (w : World) (R : Value → World → Prop) : wpA Try.prog ((Try.f14.body).getD .skip) (.node .nil (.node .nil (.node (.node .nil (.node (.loop 4294959264 [5, 13] (.node .nil (.node .nil (.node (.node (.node .nil (.node (.draw [0, 1, 0, 7, 15, 0, 32, 96, 255] (.rd 0 (.rd 1 (.rd 2 (.rd 5 (.rd 6 (.rd 7 (.imp 3 [7, 6] (.rd 4 (.rd 8 .done)))))))))) .nil)) .nil) .nil)))) .nil)) .nil))) (retE Try.prog Try.f14.results R) (envA [a0, a1]) w = VC_sautoirref10_Space_Dirty Try.prog a0 a1 w R := by kernel_rfl
theorem vc_sautoirref10_Space_Dirty {a0 a1 : Value} {w : World} {R : Value → World → Prop} (h : VC_sautoirref10_Space_Dirty Try.prog a0 a1 w R) : Sp Try.prog 14 [a0, a1] w R :=
  spec_of Try.func14 (c := (Try.f14.body).getD .skip) rfl hb_sautoirref10_Space_Dirty mixed _ _ ok_sautoirref10_Space_Dirty (by simp [Try.ntmps14]) (by rw [eq_sautoirref10_Space_Dirty]; exact h)

/-- function 15: sautoir/sautoirlaw10.awake -/
def VC_sautoirlaw10_awake (P : Program) (w : World) (R : Value → World → Prop) : Prop :=
  Sp P 7 [] w fun v1 w1 =>
  Sp P 17 [v1, (.string ⟨#[97]⟩), (.int .i64 1), (.string ⟨#[120]⟩), (.bool false)] w1 fun v2 w2 =>
  Sp P 17 [v1, (.string ⟨#[98]⟩), (.int .i64 2), (.string ⟨#[121]⟩), (.bool false)] w2 fun v3 w3 =>
  Sp P 13 [v1, (.int .i64 1)] w3 fun v4 w4 =>
  PureV P (eqS .eql 49 true v2 (.int .i64 0)) fun v5 =>
  GuardV v5 true (fun J => J v3 w4) w4 fun v6 w5 =>
  GuardV v5 true (fun J => PureV P (eqS .eql 49 true v6 (.int .i64 0)) fun v8 => J v8 w5) w5 fun v7 w6 =>
  PureV P (pickS v5 v7 (.bool false)) fun v9 =>
  GuardV v9 true (fun J => J v4 w6) w6 fun v10 w7 =>
  GuardV v9 true (fun J => ReadV P (lenS #[33] 3 #[v10]) w7 fun v12 => J v12 w7) w7 fun v11 w8 =>
  GuardV v9 true (fun J => PureV P (eqS .eql 3 true v11 (.int .i64 1)) fun v14 => J v14 w8) w8 fun v13 w9 =>
  PureV P (pickS v9 v13 (.bool false)) fun v15 =>
  GuardV v15 true (fun J => J v4 w9) w9 fun v16 w10 =>
  GuardV v15 true (fun J => PureV P (iaddrS 33 v16 (.int .i64 0)) fun v18 => J v18 w10) w10 fun v17 w11 =>
  GuardV v15 true (fun J => LoadV P 9 v17 w11 fun v20 => J v20 w11) w11 fun v19 w12 =>
  GuardV v15 true (fun J => PureV P (eqS .eql 9 true v19 (.string ⟨#[98]⟩)) fun v22 => J v22 w12) w12 fun v21 w13 =>
  PureV P (pickS v15 v21 (.bool false)) fun v23 =>
  GuardV v23 true (fun J => J v1 w13) w13 fun v24 w14 =>
  GuardV v23 true (fun J => Sp P 10 [v24, (.string ⟨#[97]⟩)] w14 J) w14 fun v25 w15 =>
  GuardV v23 true (fun J => PureV P (eqS .eql 37 true v25 (.int .u64 1)) fun v27 => J v27 w15) w15 fun v26 w16 =>
  PureV P (pickS v23 v26 (.bool false)) fun v28 =>
  R v28 w16
theorem hb_sautoirlaw10_awake : HasBody Try.prog 15 = true := by kernel_rfl
theorem ok_sautoirlaw10_awake : codeOK 34 17179869183 ((Try.f15.body).getD .skip) .nil = true := by kernel_rfl
theorem eq_sautoirlaw10_awake (w : World) (R : Value → World → Prop) : wpA Try.prog ((Try.f15.body).getD .skip) .nil (retE Try.prog Try.f15.results R) (envA []) w = VC_sautoirlaw10_awake Try.prog w R := by kernel_rfl
theorem vc_sautoirlaw10_awake {w : World} {R : Value → World → Prop} (h : VC_sautoirlaw10_awake Try.prog w R) : Sp Try.prog 15 [] w R :=
  spec_of Try.func15 (c := (Try.f15.body).getD .skip) rfl hb_sautoirlaw10_awake mixed _ _ ok_sautoirlaw10_awake (by simp [Try.ntmps15]) (by rw [eq_sautoirlaw10_awake]; exact h)

/-- function 16: (*sautoir/space.Space).Read -/
def VC_space_Space_Read (P : Program) (a0 a1 a2 : Value) (w : World) (R : Value → World → Prop) : Prop :=
  RunV P (allocS 46 true (.tuple #[])) w fun v1 w1 =>
  PureV P (eqS .eql 23 true a0 (.pointer none)) fun v2 =>
  IfP v2
  (PureV P (buildS 46 #[]) fun v3 =>
  StoreV P 46 v1 v3 w1 fun w2 =>
  LoadV P 46 v1 w2 fun v4 =>
  R (.tuple #[v4, (.bool false)]) w2)
  (PureV P (nilS a0) fun v5 =>
  PureV P (faddrS 67 v5 0) fun v6 =>
  LoadV P 65 v6 w1 fun v7 =>
  ReadV P (lookS 65 v7 a1 false) w1 fun v8 =>
  Sp P 37 [v8, a2] w1 fun v9 w3 =>
  PureV P (extrS v9 0) fun v10 =>
  PureV P (extrS v9 1) fun v11 =>
  StoreV P 46 v1 v10 w3 fun w4 =>
  LoadV P 46 v1 w4 fun v12 =>
  R (.tuple #[v12, v11]) w4)
theorem hb_space_Space_Read : HasBody Try.prog 16 = true := by kernel_rfl
theorem ok_space_Space_Read : codeOK 21 2097151 ((Try.f16.body).getD .skip) .nil = true := by kernel_rfl
theorem eq_space_Space_Read {a0 a1 a2 : Value} (w : World) (R : Value → World → Prop) : wpA Try.prog ((Try.f16.body).getD .skip) .nil (retE Try.prog Try.f16.results R) (envA [a0, a1, a2]) w = VC_space_Space_Read Try.prog a0 a1 a2 w R := by kernel_rfl
theorem vc_space_Space_Read {a0 a1 a2 : Value} {w : World} {R : Value → World → Prop} (h : VC_space_Space_Read Try.prog a0 a1 a2 w R) : Sp Try.prog 16 [a0, a1, a2] w R :=
  spec_of Try.func16 (c := (Try.f16.body).getD .skip) rfl hb_space_Space_Read mixed _ _ ok_space_Space_Read (by simp [Try.ntmps16]) (by rw [eq_space_Space_Read]; exact h)

/-- function 17: (*sautoir/space.Space).Put -/
def VC_space_Space_Put (P : Program) (a0 a1 a2 a3 a4 : Value) (w : World) (R : Value → World → Prop) : Prop :=
  PureV P (eqS .eql 23 true a0 (.pointer none)) fun v1 =>
  IfP v1
  (R (.int .i64 2) w)
  (Sp P 38 [a1] w fun v2 w1 =>
  PureV P (unS .not v2) fun v3 =>
  IfP v3
  (R (.int .i64 1) w1)
  (PureV P (nilS a0) fun v4 =>
  PureV P (faddrS 67 v4 0) fun v5 =>
  LoadV P 65 v5 w1 fun v6 =>
  ReadV P (lookS 65 v6 a1 false) w1 fun v7 =>
  Sp P 39 [v7, a2, a3, a4] w1 fun v8 w2 =>
  PureV P (extrS v8 0) fun v9 =>
  PureV P (extrS v8 1) fun v10 =>
  RunV P (allocS 74 true (.tuple #[])) w2 fun v11 w3 =>
  StoreV P 74 v11 v9 w3 fun w4 =>
  Join (fun J1 : World → Prop =>
  PureV P (eqS .eql 49 true v10 (.int .i64 0)) fun v12 =>
  IfP v12
  (PureV P (nilS a0) fun v13 =>
  PureV P (faddrS 67 v13 0) fun v14 =>
  LoadV P 65 v14 (World.drew w4) fun v15 =>
  LoadV P 74 v11 (World.drew w4) fun v16 =>
  RunU P (mapupS 65 v15 a1 v16) (World.drew w4) fun w5 =>
  J1 w5)
  (J1 w4))
  (fun w6 =>
  R v10 w6)))
theorem hb_space_Space_Put : HasBody Try.prog 17 = true := by kernel_rfl
theorem ok_space_Space_Put : codeOK 42 4398046511103 ((Try.f17.body).getD .skip) (.node .nil (.node .nil (.node .nil (.node (.node .nil (.node (.draw [0, 1, 3, 7, 0, 0, 63] (.rd 0 (.rd 1 (.rd 2 (.rd 3 (.rd 4 (.rd 5 (.imp 6 [] .done)))))))) .nil)) .nil)))) = true := by kernel_rfl
theorem eq_space_Space_Put {a0 a1 a2 a3 a4 : Value} (w : World) (R : Value → World → Prop) : wpA Try.prog ((Try.f17.body).getD .skip) (.node .nil (.node .nil (.node .nil (.node (.node .nil (.node (.draw [0, 1, 3, 7, 0, 0, 63] (.rd 0 (.rd 1 (.rd 2 (.rd 3 (.rd 4 (.rd 5 (.imp 6 [] .done)))))))) .nil)) .nil)))) (retE Try.prog Try.f17.results R) (envA [a0, a1, a2, a3, a4]) w = VC_space_Space_Put Try.prog a0 a1 a2 a3 a4 w R := by kernel_rfl
theorem vc_space_Space_Put {a0 a1 a2 a3 a4 : Value} {w : World} {R : Value → World → Prop} (h : VC_space_Space_Put Try.prog a0 a1 a2 a3 a4 w R) : Sp Try.prog 17 [a0, a1, a2, a3, a4] w R :=
  spec_of Try.func17 (c := (Try.f17.body).getD .skip) rfl hb_space_Space_Put mixed _ _ ok_space_Space_Put (by simp [Try.ntmps17]) (by rw [eq_space_Space_Put]; exact h)

/-- function 18: sautoir/sautoirref09.Same -/
def VC_sautoirref09_Same (P : Program) (a0 a1 : Value) (w : World) (R : Value → World → Prop) : Prop :=
  ReadV P (lenS #[34] 3 #[a0]) w fun v1 =>
  ReadV P (lenS #[34] 3 #[a1]) w fun v2 =>
  PureV P (eqS .neq 3 false v1 v2) fun v3 =>
  IfP v3
  (R (.bool false) w)
  (ReadV P (lenS #[34] 3 #[a0]) w fun v4 =>
  LoopP [13] [(.int .i64 0)] w fun H1 m1 w1 =>
  PureV P (binS .lss 3 (m1 13) v4) fun v5 =>
  IfP v5
  (PureV P (iaddrS 34 a0 (m1 13)) fun v6 =>
  LoadV P 40 v6 (World.drew w1) fun v7 =>
  PureV P (iaddrS 34 a1 (m1 13)) fun v8 =>
  LoadV P 40 v8 (World.drew w1) fun v9 =>
  PureV P (eqS .neq 40 false v7 v9) fun v10 =>
  IfP v10
  (R (.bool false) (World.drew w1))
  (PureV P (binS .add 3 (m1 13) (.int .i64 1)) fun v11 =>
  H1 [v11] (World.drew w1)))
  (R (.bool true) w1))
theorem hb_sautoirref09_Same : HasBody Try.prog 18 = true := by kernel_rfl
theorem ok_sautoirref09_Same : codeOK 26 67108863 ((Try.f18.body).getD .skip) (.node .nil (.node .nil (.node (.node .nil (.node (.loop 67100720 [13] (.node .nil (.node .nil (.node (.node (.node .nil (.node (.draw [0, 0, 3, 7, 0, 0, 48, 112, 255] (.rd 0 (.rd 1 (.rd 2 (.rd 3 (.rd 4 (.rd 5 (.rd 6 (.rd 7 (.rd 8 .done)))))))))) .nil)) .nil) .nil)))) .nil)) .nil))) = true := by kernel_rfl
theorem eq_sautoirref09_Same {a0 a1 : Value} (w : World) (R : Value → World → Prop) : wpA Try.prog ((Try.f18.body).getD .skip) (.node .nil (.node .nil (.node (.node .nil (.node (.loop 67100720 [13] (.node .nil (.node .nil (.node (.node (.node .nil (.node (.draw [0, 0, 3, 7, 0, 0, 48, 112, 255] (.rd 0 (.rd 1 (.rd 2 (.rd 3 (.rd 4 (.rd 5 (.rd 6 (.rd 7 (.rd 8 .done)))))))))) .nil)) .nil) .nil)))) .nil)) .nil))) (retE Try.prog Try.f18.results R) (envA [a0, a1]) w = VC_sautoirref09_Same Try.prog a0 a1 w R := by kernel_rfl
theorem vc_sautoirref09_Same {a0 a1 : Value} {w : World} {R : Value → World → Prop} (h : VC_sautoirref09_Same Try.prog a0 a1 w R) : Sp Try.prog 18 [a0, a1] w R :=
  spec_of Try.func18 (c := (Try.f18.body).getD .skip) rfl hb_sautoirref09_Same mixed _ _ ok_sautoirref09_Same (by simp [Try.ntmps18]) (by rw [eq_sautoirref09_Same]; exact h)

/-- function 19: sautoir/space.Same -/
def VC_space_Same (P : Program) (a0 a1 : Value) (w : World) (R : Value → World → Prop) : Prop :=
  Sp P 12 [a0] w fun v1 w1 =>
  Sp P 12 [a1] w1 fun v2 w2 =>
  Sp P 40 [v1, v2] w2 fun v3 w3 =>
  PureV P (unS .not v3) fun v4 =>
  IfP v4
  (R (.bool false) w3)
  (ReadV P (lenS #[33] 3 #[v1]) w3 fun v5 =>
  LoopP [17] [(.int .i64 0)] w3 fun H1 m1 w4 =>
  PureV P (binS .lss 3 (m1 17) v5) fun v6 =>
  IfP v6
  (PureV P (iaddrS 33 v1 (m1 17)) fun v7 =>
  LoadV P 9 v7 w4 fun v8 =>
  PureV P (nilS a0) fun v9 =>
  PureV P (faddrS 67 v9 0) fun v10 =>
  LoadV P 65 v10 (World.drew w4) fun v11 =>
  ReadV P (lookS 65 v11 v8 false) (World.drew w4) fun v12 =>
  PureV P (nilS a1) fun v13 =>
  PureV P (faddrS 67 v13 0) fun v14 =>
  LoadV P 65 v14 (World.drew w4) fun v15 =>
  ReadV P (lookS 65 v15 v8 false) (World.drew w4) fun v16 =>
  Sp P 41 [v12, v16] (World.drew w4) fun v17 w5 =>
  PureV P (unS .not v17) fun v18 =>
  IfP v18
  (R (.bool false) w5)
  (PureV P (binS .add 3 (m1 17) (.int .i64 1)) fun v19 =>
  H1 [v19] w5))
  (R (.bool true) w4))
theorem hb_space_Same : HasBody Try.prog 19 = true := by kernel_rfl
theorem ok_space_Same : codeOK 36 68719476735 ((Try.f19.body).getD .skip) (.node .nil (.node .nil (.node .nil (.node (.node .nil (.node (.loop 68719345808 [17] (.node .nil (.node .nil (.node (.node (.node .nil (.node (.draw [0, 1, 3, 7, 0, 31, 0, 64, 192, 448, 0, 1984, 4095, 8191] (.rd 0 (.rd 1 (.rd 2 (.rd 3 (.rd 4 (.rd 5 (.rd 6 (.rd 7 (.rd 8 (.rd 9 (.rd 10 (.rd 11 (.imp 12 [] (.rd 13 .done))))))))))))))) .nil)) .nil) .nil)))) .nil)) .nil)))) = true := by kernel_rfl
theorem eq_space_Same {a0 a1 : Value} (w : World) (R : Value → World → Prop) : wpA Try.prog ((Try.f19.body).getD .skip) (.node .nil (.node .nil (.node .nil (.node (.node .nil (.node (.loop 68719345808 [17] (.node .nil (.node .nil (.node (.node (.node .nil (.node (.draw [0, 1, 3, 7, 0, 31, 0, 64, 192, 448, 0, 1984, 4095, 8191] (.rd 0 (.rd 1 (.rd 2 (.rd 3 (.rd 4 (.rd 5 (.rd 6 (.rd 7 (.rd 8 (.rd 9 (.rd 10 (.rd 11 (.imp 12 [] (.rd 13 .done))))))))))))))) .nil)) .nil) .nil)))) .nil)) .nil)))) (retE Try.prog Try.f19.results R) (envA [a0, a1]) w = VC_space_Same Try.prog a0 a1 w R := by kernel_rfl
theorem vc_space_Same {a0 a1 : Value} {w : World} {R : Value → World → Prop} (h : VC_space_Same Try.prog a0 a1 w R) : Sp Try.prog 19 [a0, a1] w R :=
  spec_of Try.func19 (c := (Try.f19.body).getD .skip) rfl hb_space_Same mixed _ _ ok_space_Same (by simp [Try.ntmps19]) (by rw [eq_space_Same]; exact h)

/-- function 25: (*sautoir/sautoirref10.Space).Put -/
def VC_sautoirref10_Space_Put (P : Program) (a0 a1 a2 a3 a4 : Value) (w : World) (R : Value → World → Prop) : Prop :=
  Sp P 31 [a0, a1] w fun v1 w1 =>
  PureV P (buildS 40 #[]) fun v2 =>
  RunV P (allocS 40 true (.tuple #[])) w1 fun v3 w2 =>
  StoreV P 40 v3 v2 w2 fun w3 =>
  Join (fun J1 : World → Prop =>
  ReadV P (lenS #[34] 3 #[v1]) w3 fun v4 =>
  PureV P (binS .gtr 3 v4 (.int .i64 0)) fun v5 =>
  IfP v5
  (ReadV P (lenS #[34] 3 #[v1]) w3 fun v6 =>
  PureV P (binS .sub 3 v6 (.int .i64 1)) fun v7 =>
  PureV P (iaddrS 34 v1 v7) fun v8 =>
  LoadV P 40 v8 w3 fun v9 =>
  StoreV P 40 v3 v9 w3 fun w4 =>
  J1 w4)
  (J1 w3))
  (fun w5 =>
  Sp P 49 [a1] w5 fun v10 w6 =>
  PureV P (unS .not v10) fun v11 =>
  GuardV v11 false (fun J => J a2 w6) w6 fun v12 w7 =>
  GuardV v11 false (fun J => PureV P (binS .lss 3 v12 (.int .i64 1)) fun v14 => J v14 w7) w7 fun v13 w8 =>
  PureV P (pickS v11 (.bool true) v13) fun v15 =>
  GuardV v15 false (fun J => J a2 w8) w8 fun v16 w9 =>
  GuardV v15 false (fun J => PureV P (faddrS 40 v3 0) fun v18 => J v18 w9) w9 fun v17 w10 =>
  GuardV v15 false (fun J => LoadV P 3 v17 w10 fun v20 => J v20 w10) w10 fun v19 w11 =>
  GuardV v15 false (fun J => PureV P (binS .leq 3 v16 v19) fun v22 => J v22 w11) w11 fun v21 w12 =>
  PureV P (pickS v15 (.bool true) v21) fun v23 =>
  GuardV v23 false (fun J => J a3 w12) w12 fun v24 w13 =>
  GuardV v23 false (fun J => J a4 w13) w13 fun v25 w14 =>
  GuardV v23 false (fun J => Sp P 50 [v24, v25] w14 J) w14 fun v26 w15 =>
  GuardV v23 false (fun J => PureV P (unS .not v26) fun v28 => J v28 w15) w15 fun v27 w16 =>
  PureV P (pickS v23 (.bool true) v27) fun v29 =>
  IfP v29
  (R (.int .i64 1) w16)
  (RunV P (bsliceS 34 0 #[]) w16 fun v30 w17 =>
  RunV P (appS #[34, 34] 34 #[v30, v1]) w17 fun v31 w18 =>
  PureV P (faddrS 40 v3 1) fun v32 =>
  LoadV P 37 v32 w18 fun v33 =>
  PureV P (binS .add 37 v33 (.int .u64 1)) fun v34 =>
  PureV P (buildS 40 #[(0, a2), (1, v34), (2, a3), (3, a4)]) fun v35 =>
  RunV P (bsliceS 34 1 #[(0, v35)]) w18 fun v36 w19 =>
  RunV P (appS #[34, 34] 34 #[v31, v36]) w19 fun v37 w20 =>
  Sp P 51 [a0, a1, v37] w20 fun v38 w21 =>
  R (.int .i64 0) w21))
theorem hb_sautoirref10_Space_Put : HasBody Try.prog 25 = true := by kernel_rfl
theorem ok_sautoirref10_Space_Put : codeOK 62 4611686018427387903 ((Try.f25.body).getD .skip) .nil = true := by kernel_rfl
theorem eq_sautoirref10_Space_Put {a0 a1 a2 a3 a4 : Value} (w : World) (R : Value → World → Prop) : wpA Try.prog ((Try.f25.body).getD .skip) .nil (retE Try.prog Try.f25.results R) (envA [a0, a1, a2, a3, a4]) w = VC_sautoirref10_Space_Put Try.prog a0 a1 a2 a3 a4 w R := by kernel_rfl
theorem vc_sautoirref10_Space_Put {a0 a1 a2 a3 a4 : Value} {w : World} {R : Value → World → Prop} (h : VC_sautoirref10_Space_Put Try.prog a0 a1 a2 a3 a4 w R) : Sp Try.prog 25 [a0, a1, a2, a3, a4] w R :=
  spec_of Try.func25 (c := (Try.f25.body).getD .skip) rfl hb_sautoirref10_Space_Put mixed _ _ ok_sautoirref10_Space_Put (by simp [Try.ntmps25]) (by rw [eq_sautoirref10_Space_Put]; exact h)

/-- function 26: (*sautoir/space.Space).Undo -/
def VC_space_Space_Undo (P : Program) (a0 a1 : Value) (w : World) (R : Value → World → Prop) : Prop :=
  RunV P (boxS 3 a1) w fun v1 w1 =>
  Sp P 52 [a0, (.func (.func 53) #[] #[v1])] w1 fun v2 w2 =>
  R (.tuple #[]) w2
theorem hb_space_Space_Undo : HasBody Try.prog 26 = true := by kernel_rfl
theorem ok_space_Space_Undo : codeOK 7 127 ((Try.f26.body).getD .skip) .nil = true := by kernel_rfl
theorem eq_space_Space_Undo {a0 a1 : Value} (w : World) (R : Value → World → Prop) : wpA Try.prog ((Try.f26.body).getD .skip) .nil (retE Try.prog Try.f26.results R) (envA [a0, a1]) w = VC_space_Space_Undo Try.prog a0 a1 w R := by kernel_rfl
theorem vc_space_Space_Undo {a0 a1 : Value} {w : World} {R : Value → World → Prop} (h : VC_space_Space_Undo Try.prog a0 a1 w R) : Sp Try.prog 26 [a0, a1] w R :=
  spec_of Try.func26 (c := (Try.f26.body).getD .skip) rfl hb_space_Space_Undo mixed _ _ ok_space_Space_Undo (by simp [Try.ntmps26]) (by rw [eq_space_Space_Undo]; exact h)

/-- function 27: (*sautoir/sautoirref10.Space).Undo -/
def VC_sautoirref10_Space_Undo (P : Program) (a0 a1 : Value) (w : World) (R : Value → World → Prop) : Prop :=
  RunV P (bsliceS 26 0 #[]) w fun v1 w1 =>
  PureV P (nilS a0) fun v2 =>
  PureV P (faddrS 28 v2 0) fun v3 =>
  LoadV P 26 v3 w1 fun v4 =>
  RunV P (appS #[26, 26] 26 #[v1, v4]) w1 fun v5 w2 =>
  ReadV P (lenS #[26] 3 #[v5]) w2 fun v6 =>
  LoopP [13] [(.int .i64 0)] w2 fun H1 m1 w3 =>
  PureV P (binS .lss 3 (m1 13) v6) fun v7 =>
  IfP v7
  (PureV P (iaddrS 26 v5 (m1 13)) fun v8 =>
  LoadV P 36 v8 w3 fun v9 =>
  RunV P (allocS 36 true (.tuple #[])) w3 fun v10 w4 =>
  StoreV P 36 v10 v9 w4 fun w5 =>
  PureV P (faddrS 36 v10 0) fun v11 =>
  LoadV P 9 v11 (World.drew w5) fun v12 =>
  PureV P (faddrS 36 v10 1) fun v13 =>
  LoadV P 34 v13 (World.drew w5) fun v14 =>
  Sp P 36 [v14, a1] (World.drew w5) fun v15 w6 =>
  loadO P 9 v11 w6 = some v12 ∧
  Sp P 51 [a0, v12, v15] w6 fun v16 w7 =>
  PureV P (binS .add 3 (m1 13) (.int .i64 1)) fun v17 =>
  H1 [v17] w7)
  (R (.tuple #[]) w3)
theorem hb_sautoirref10_Space_Undo : HasBody Try.prog 27 = true := by kernel_rfl
theorem ok_sautoirref10_Space_Undo : codeOK 26 67108863 ((Try.f27.body).getD .skip) (.node .nil (.node (.loop 67100704 [13] (.node .nil (.node .nil (.node (.node (.node .nil (.draw [0, 0, 2, 0, 8, 0, 56, 127] (.rd 0 (.rd 1 (.rd 2 (.rd 3 (.rd 4 (.rd 5 (.imp 6 [2] (.imp 7 [] .done)))))))))) .nil) .nil)))) .nil)) = true := by kernel_rfl
theorem eq_sautoirref10_Space_Undo {a0 a1 : Value} (w : World) (R : Value → World → Prop) : wpA Try.prog ((Try.f27.body).getD .skip) (.node .nil (.node (.loop 67100704 [13] (.node .nil (.node .nil (.node (.node (.node .nil (.draw [0, 0, 2, 0, 8, 0, 56, 127] (.rd 0 (.rd 1 (.rd 2 (.rd 3 (.rd 4 (.rd 5 (.imp 6 [2] (.imp 7 [] .done)))))))))) .nil) .nil)))) .nil)) (retE Try.prog Try.f27.results R) (envA [a0, a1]) w = VC_sautoirref10_Space_Undo Try.prog a0 a1 w R := by kernel_rfl
theorem vc_sautoirref10_Space_Undo {a0 a1 : Value} {w : World} {R : Value → World → Prop} (h : VC_sautoirref10_Space_Undo Try.prog a0 a1 w R) : Sp Try.prog 27 [a0, a1] w R :=
  spec_of Try.func27 (c := (Try.f27.body).getD .skip) rfl hb_sautoirref10_Space_Undo mixed _ _ ok_sautoirref10_Space_Undo (by simp [Try.ntmps27]) (by rw [eq_sautoirref10_Space_Undo]; exact h)

/-- function 28: (*sautoir/space.Space).Clean -/
def VC_space_Space_Clean (P : Program) (a0 a1 : Value) (w : World) (R : Value → World → Prop) : Prop :=
  RunV P (boxS 3 a1) w fun v1 w1 =>
  Sp P 52 [a0, (.func (.func 55) #[] #[v1])] w1 fun v2 w2 =>
  R (.tuple #[]) w2
theorem hb_space_Space_Clean : HasBody Try.prog 28 = true := by kernel_rfl
theorem ok_space_Space_Clean : codeOK 7 127 ((Try.f28.body).getD .skip) .nil = true := by kernel_rfl
theorem eq_space_Space_Clean {a0 a1 : Value} (w : World) (R : Value → World → Prop) : wpA Try.prog ((Try.f28.body).getD .skip) .nil (retE Try.prog Try.f28.results R) (envA [a0, a1]) w = VC_space_Space_Clean Try.prog a0 a1 w R := by kernel_rfl
theorem vc_space_Space_Clean {a0 a1 : Value} {w : World} {R : Value → World → Prop} (h : VC_space_Space_Clean Try.prog a0 a1 w R) : Sp Try.prog 28 [a0, a1] w R :=
  spec_of Try.func28 (c := (Try.f28.body).getD .skip) rfl hb_space_Space_Clean mixed _ _ ok_space_Space_Clean (by simp [Try.ntmps28]) (by rw [eq_space_Space_Clean]; exact h)

/-- function 29: (*sautoir/sautoirref10.Space).Clean -/
def VC_sautoirref10_Space_Clean (P : Program) (a0 a1 : Value) (w : World) (R : Value → World → Prop) : Prop :=
  RunV P (bsliceS 26 0 #[]) w fun v1 w1 =>
  PureV P (nilS a0) fun v2 =>
  PureV P (faddrS 28 v2 0) fun v3 =>
  LoadV P 26 v3 w1 fun v4 =>
  RunV P (appS #[26, 26] 26 #[v1, v4]) w1 fun v5 w2 =>
  ReadV P (lenS #[26] 3 #[v5]) w2 fun v6 =>
  LoopP [13] [(.int .i64 0)] w2 fun H1 m1 w3 =>
  PureV P (binS .lss 3 (m1 13) v6) fun v7 =>
  IfP v7
  (PureV P (iaddrS 26 v5 (m1 13)) fun v8 =>
  LoadV P 36 v8 w3 fun v9 =>
  RunV P (allocS 36 true (.tuple #[])) w3 fun v10 w4 =>
  StoreV P 36 v10 v9 w4 fun w5 =>
  PureV P (faddrS 36 v10 0) fun v11 =>
  LoadV P 9 v11 (World.drew w5) fun v12 =>
  PureV P (faddrS 36 v10 1) fun v13 =>
  LoadV P 34 v13 (World.drew w5) fun v14 =>
  Sp P 57 [v14, a1] (World.drew w5) fun v15 w6 =>
  loadO P 9 v11 w6 = some v12 ∧
  Sp P 51 [a0, v12, v15] w6 fun v16 w7 =>
  PureV P (binS .add 3 (m1 13) (.int .i64 1)) fun v17 =>
  H1 [v17] w7)
  (R (.tuple #[]) w3)
theorem hb_sautoirref10_Space_Clean : HasBody Try.prog 29 = true := by kernel_rfl
theorem ok_sautoirref10_Space_Clean : codeOK 26 67108863 ((Try.f29.body).getD .skip) (.node .nil (.node (.loop 67100704 [13] (.node .nil (.node .nil (.node (.node (.node .nil (.draw [0, 0, 2, 0, 8, 0, 56, 127] (.rd 0 (.rd 1 (.rd 2 (.rd 3 (.rd 4 (.rd 5 (.imp 6 [2] (.imp 7 [] .done)))))))))) .nil) .nil)))) .nil)) = true := by kernel_rfl
theorem eq_sautoirref10_Space_Clean {a0 a1 : Value} (w : World) (R : Value → World → Prop) : wpA Try.prog ((Try.f29.body).getD .skip) (.node .nil (.node (.loop 67100704 [13] (.node .nil (.node .nil (.node (.node (.node .nil (.draw [0, 0, 2, 0, 8, 0, 56, 127] (.rd 0 (.rd 1 (.rd 2 (.rd 3 (.rd 4 (.rd 5 (.imp 6 [2] (.imp 7 [] .done)))))))))) .nil) .nil)))) .nil)) (retE Try.prog Try.f29.results R) (envA [a0, a1]) w = VC_sautoirref10_Space_Clean Try.prog a0 a1 w R := by kernel_rfl
theorem vc_sautoirref10_Space_Clean {a0 a1 : Value} {w : World} {R : Value → World → Prop} (h : VC_sautoirref10_Space_Clean Try.prog a0 a1 w R) : Sp Try.prog 29 [a0, a1] w R :=
  spec_of Try.func29 (c := (Try.f29.body).getD .skip) rfl hb_sautoirref10_Space_Clean mixed _ _ ok_sautoirref10_Space_Clean (by simp [Try.ntmps29]) (by rw [eq_sautoirref10_Space_Clean]; exact h)

/-- function 30: sautoir/sautoirref09.Read -/
def VC_sautoirref09_Read (P : Program) (a0 a1 : Value) (w : World) (R : Value → World → Prop) : Prop :=
  RunV P (allocS 40 true (.tuple #[])) w fun v1 w1 =>
  Sp P 36 [a0, a1] w1 fun v2 w2 =>
  ReadV P (lenS #[34] 3 #[v2]) w2 fun v3 =>
  PureV P (eqS .eql 3 true v3 (.int .i64 0)) fun v4 =>
  IfP v4
  (PureV P (buildS 40 #[]) fun v5 =>
  StoreV P 40 v1 v5 w2 fun w3 =>
  LoadV P 40 v1 w3 fun v6 =>
  R (.tuple #[v6, (.bool false)]) w3)
  (ReadV P (lenS #[34] 3 #[v2]) w2 fun v7 =>
  PureV P (binS .sub 3 v7 (.int .i64 1)) fun v8 =>
  PureV P (iaddrS 34 v2 v8) fun v9 =>
  LoadV P 40 v9 w2 fun v10 =>
  StoreV P 40 v1 v10 w2 fun w4 =>
  LoadV P 40 v1 w4 fun v11 =>
  R (.tuple #[v11, (.bool true)]) w4)
theorem hb_sautoirref09_Read : HasBody Try.prog 30 = true := by kernel_rfl
theorem ok_sautoirref09_Read : codeOK 20 1048575 ((Try.f30.body).getD .skip) .nil = true := by kernel_rfl
theorem eq_sautoirref09_Read {a0 a1 : Value} (w : World) (R : Value → World → Prop) : wpA Try.prog ((Try.f30.body).getD .skip) .nil (retE Try.prog Try.f30.results R) (envA [a0, a1]) w = VC_sautoirref09_Read Try.prog a0 a1 w R := by kernel_rfl
theorem vc_sautoirref09_Read {a0 a1 : Value} {w : World} {R : Value → World → Prop} (h : VC_sautoirref09_Read Try.prog a0 a1 w R) : Sp Try.prog 30 [a0, a1] w R :=
  spec_of Try.func30 (c := (Try.f30.body).getD .skip) rfl hb_sautoirref09_Read mixed _ _ ok_sautoirref09_Read (by simp [Try.ntmps30]) (by rw [eq_sautoirref09_Read]; exact h)

/-- function 31: (*sautoir/sautoirref10.Space).Of -/
def VC_sautoirref10_Space_Of (P : Program) (a0 a1 : Value) (w : World) (R : Value → World → Prop) : Prop :=
  PureV P (nilS a0) fun v1 =>
  PureV P (faddrS 28 v1 0) fun v2 =>
  LoadV P 26 v2 w fun v3 =>
  ReadV P (lenS #[26] 3 #[v3]) w fun v4 =>
  LoopP [12] [(.int .i64 0)] w fun H1 m1 w1 =>
  PureV P (binS .lss 3 (m1 12) v4) fun v5 =>
  IfP v5
  (PureV P (iaddrS 26 v3 (m1 12)) fun v6 =>
  LoadV P 36 v6 w1 fun v7 =>
  RunV P (allocS 36 true (.tuple #[])) w1 fun v8 w2 =>
  StoreV P 36 v8 v7 w2 fun w3 =>
  PureV P (faddrS 36 v8 0) fun v9 =>
  LoadV P 9 v9 w3 fun v10 =>
  PureV P (eqS .eql 9 false v10 a1) fun v11 =>
  IfP v11
  (PureV P (faddrS 36 v8 1) fun v12 =>
  LoadV P 34 v12 w3 fun v13 =>
  R v13 w3)
  (PureV P (binS .add 3 (m1 12) (.int .i64 1)) fun v14 =>
  H1 [v14] w3))
  (R (.slice none 0 0) w1)
theorem hb_sautoirref10_Space_Of : HasBody Try.prog 31 = true := by kernel_rfl
theorem ok_sautoirref10_Space_Of : codeOK 23 8388607 ((Try.f31.body).getD .skip) (.node .nil (.node (.node .nil (.node (.loop 8384592 [12] .nil) .nil)) .nil)) = true := by kernel_rfl
theorem eq_sautoirref10_Space_Of {a0 a1 : Value} (w : World) (R : Value → World → Prop) : wpA Try.prog ((Try.f31.body).getD .skip) (.node .nil (.node (.node .nil (.node (.loop 8384592 [12] .nil) .nil)) .nil)) (retE Try.prog Try.f31.results R) (envA [a0, a1]) w = VC_sautoirref10_Space_Of Try.prog a0 a1 w R := by kernel_rfl
theorem vc_sautoirref10_Space_Of {a0 a1 : Value} {w : World} {R : Value → World → Prop} (h : VC_sautoirref10_Space_Of Try.prog a0 a1 w R) : Sp Try.prog 31 [a0, a1] w R :=
  spec_of Try.func31 (c := (Try.f31.body).getD .skip) rfl hb_sautoirref10_Space_Of mixed _ _ ok_sautoirref10_Space_Of (by simp [Try.ntmps31]) (by rw [eq_sautoirref10_Space_Of]; exact h)

/-- function 32: (sautoir/object.Object).Last -/
def VC_object_Object_Last (P : Program) (a0 : Value) (w : World) (R : Value → World → Prop) : Prop :=
  RunV P (boxS 74 a0) w fun v1 w1 =>
  RunV P (allocS 46 true (.tuple #[])) w1 fun v2 w2 =>
  PureV P (faddrS 74 v1 0) fun v3 =>
  LoadV P 72 v3 w2 fun v4 =>
  ReadV P (lenS #[72] 3 #[v4]) w2 fun v5 =>
  PureV P (eqS .eql 3 true v5 (.int .i64 0)) fun v6 =>
  GuardV v6 false (fun J => LoadV P 74 v1 w2 fun v8 => J v8 w2) w2 fun v7 w3 =>
  GuardV v6 false (fun J => Sp P 58 [v7] w3 J) w3 fun v9 w4 =>
  GuardV v6 false (fun J => PureV P (unS .not v9) fun v11 => J v11 w4) w4 fun v10 w5 =>
  PureV P (pickS v6 (.bool true) v10) fun v12 =>
  IfP v12
  (PureV P (buildS 46 #[]) fun v13 =>
  StoreV P 46 v2 v13 w5 fun w6 =>
  LoadV P 46 v2 w6 fun v14 =>
  R v14 w6)
  (PureV P (faddrS 74 v1 0) fun v15 =>
  LoadV P 72 v15 w5 fun v16 =>
  PureV P (faddrS 74 v1 0) fun v17 =>
  LoadV P 72 v17 w5 fun v18 =>
  ReadV P (lenS #[72] 3 #[v18]) w5 fun v19 =>
  PureV P (binS .sub 3 v19 (.int .i64 1)) fun v20 =>
  PureV P (iaddrS 72 v16 v20) fun v21 =>
  LoadV P 46 v21 w5 fun v22 =>
  StoreV P 46 v2 v22 w5 fun w7 =>
  LoadV P 46 v2 w7 fun v23 =>
  R v23 w7)
theorem hb_object_Object_Last : HasBody Try.prog 32 = true := by kernel_rfl
theorem ok_object_Object_Last : codeOK 21 2097151 ((Try.f32.body).getD .skip) .nil = true := by kernel_rfl
theorem eq_object_Object_Last {a0 : Value} (w : World) (R : Value → World → Prop) : wpA Try.prog ((Try.f32.body).getD .skip) .nil (retE Try.prog Try.f32.results R) (envA [a0]) w = VC_object_Object_Last Try.prog a0 w R := by kernel_rfl
theorem vc_object_Object_Last {a0 : Value} {w : World} {R : Value → World → Prop} (h : VC_object_Object_Last Try.prog a0 w R) : Sp Try.prog 32 [a0] w R :=
  spec_of Try.func32 (c := (Try.f32.body).getD .skip) rfl hb_object_Object_Last mixed _ _ ok_object_Object_Last (by simp [Try.ntmps32]) (by rw [eq_object_Object_Last]; exact h)

/-- function 35: (sautoir/object.Object).Dirty -/
def VC_object_Object_Dirty (P : Program) (a0 a1 : Value) (w : World) (R : Value → World → Prop) : Prop :=
  RunV P (boxS 74 a0) w fun v1 w1 =>
  LoadV P 74 v1 (World.drew w1) fun v2 =>
  Sp P 58 [v2] (World.drew w1) fun v3 w2 =>
  GuardV v3 true (fun J => LoadV P 74 v1 w2 fun v5 => J v5 w2) w2 fun v4 _ =>
  GuardV v3 true (fun J => J a1 w2) w2 fun v6 _ =>
  GuardV v3 true (fun J => PureV P (faddrS 74 v1 0) fun v8 => J v8 w2) w2 fun v7 _ =>
  GuardV v3 true (fun J => LoadV P 72 v7 w2 fun v10 => J v10 w2) w2 fun v9 _ =>
  GuardV v3 true (fun J => ReadV P (lenS #[72] 3 #[v9]) w2 fun v12 => J v12 w2) w2 fun v11 _ =>
  GuardV v3 true (fun J => Sp P 62 [v4, v6] w2 J) w2 fun v13 w3 =>
  (v3 = .bool true → Stay P (lenS #[72] 3 #[v9]) v11 w3) ∧
  (v3 = .bool true → loadO P 72 v7 w3 = some v9) ∧
  GuardV v3 true (fun J => PureV P (binS .lss 3 v13 v11) fun v15 => J v15 w3) w3 fun v14 _ =>
  PureV P (pickS v3 v14 (.bool false)) fun v16 =>
  R v16 w3
theorem hb_object_Object_Dirty : HasBody Try.prog 35 = true := by kernel_rfl
theorem ok_object_Object_Dirty : codeOK 16 65535 ((Try.f35.body).getD .skip) (.node .nil (.node (.draw [0, 1, 3, 7, 7, 31, 7, 71, 199, 511, 1023, 2047] (.rd 0 (.imp 1 [] (.rd 2 (.rd 3 (.rd 4 (.rd 6 (.rd 7 (.rd 8 (.imp 5 [8, 7] (.rd 9 (.rd 10 (.rd 11 .done))))))))))))) .nil)) = true := by kernel_rfl
theorem eq_object_Object_Dirty {a0 a1 : Value} (w : World) (R : Value → World → Prop) : wpA Try.prog ((Try.f35.body).getD .skip) (.node .nil (.node (.draw [0, 1, 3, 7, 7, 31, 7, 71, 199, 511, 1023, 2047] (.rd 0 (.imp 1 [] (.rd 2 (.rd 3 (.rd 4 (.rd 6 (.rd 7 (.rd 8 (.imp 5 [8, 7] (.rd 9 (.rd 10 (.rd 11 .done))))))))))))) .nil)) (retE Try.prog Try.f35.results R) (envA [a0, a1]) w = VC_object_Object_Dirty Try.prog a0 a1 w R := by kernel_rfl
theorem vc_object_Object_Dirty {a0 a1 : Value} {w : World} {R : Value → World → Prop} (h : VC_object_Object_Dirty Try.prog a0 a1 w R) : Sp Try.prog 35 [a0, a1] w R :=
  spec_of Try.func35 (c := (Try.f35.body).getD .skip) rfl hb_object_Object_Dirty mixed _ _ ok_object_Object_Dirty (by simp [Try.ntmps35]) (by rw [eq_object_Object_Dirty]; exact h)

/-- function 36: sautoir/sautoirref09.Undo -/
def VC_sautoirref09_Undo (P : Program) (a0 a1 : Value) (w : World) (R : Value → World → Prop) : Prop :=
  ReadV P (lenS #[34] 3 #[a0]) w fun v1 =>
  LoopP [5, 10] [(.slice none 0 0), (.int .i64 0)] w fun H1 m1 w1 =>
  PureV P (binS .lss 3 (m1 10) v1) fun v2 =>
  IfP v2
  (Join (fun J2 : Value → World → Prop =>
  PureV P (iaddrS 34 a0 (m1 10)) fun v3 =>
  LoadV P 40 v3 w1 fun v4 =>
  RunV P (allocS 40 true (.tuple #[])) w1 fun v5 w2 =>
  StoreV P 40 v5 v4 w2 fun w3 =>
  PureV P (faddrS 40 v5 0) fun v6 =>
  LoadV P 3 v6 w3 fun v7 =>
  PureV P (binS .leq 3 v7 a1) fun v8 =>
  IfP v8
  (LoadV P 40 v5 w3 fun v9 =>
  RunV P (bsliceS 34 1 #[(0, v9)]) w3 fun v10 w4 =>
  RunV P (appS #[34, 34] 34 #[(m1 5), v10]) w4 fun v11 w5 =>
  J2 v11 w5)
  (J2 (m1 5) w3))
  (fun v12 w6 =>
  PureV P (binS .add 3 (m1 10) (.int .i64 1)) fun v13 =>
  H1 [v12, v13] w6))
  (R (m1 5) w1)
theorem hb_sautoirref09_Undo : HasBody Try.prog 36 = true := by kernel_rfl
theorem ok_sautoirref09_Undo : codeOK 24 16777215 ((Try.f36.body).getD .skip) (.node .nil (.node .nil (.node (.node .nil (.node (.loop 8387744 [5, 10] .nil) .nil)) .nil))) = true := by kernel_rfl
theorem eq_sautoirref09_Undo {a0 a1 : Value} (w : World) (R : Value → World → Prop) : wpA Try.prog ((Try.f36.body).getD .skip) (.node .nil (.node .nil (.node (.node .nil (.node (.loop 8387744 [5, 10] .nil) .nil)) .nil))) (retE Try.prog Try.f36.results R) (envA [a0, a1]) w = VC_sautoirref09_Undo Try.prog a0 a1 w R := by kernel_rfl
theorem vc_sautoirref09_Undo {a0 a1 : Value} {w : World} {R : Value → World → Prop} (h : VC_sautoirref09_Undo Try.prog a0 a1 w R) : Sp Try.prog 36 [a0, a1] w R :=
  spec_of Try.func36 (c := (Try.f36.body).getD .skip) rfl hb_sautoirref09_Undo mixed _ _ ok_sautoirref09_Undo (by simp [Try.ntmps36]) (by rw [eq_sautoirref09_Undo]; exact h)

/-- function 37: (sautoir/object.Object).Read -/
def VC_object_Object_Read (P : Program) (a0 a1 : Value) (w : World) (R : Value → World → Prop) : Prop :=
  RunV P (boxS 74 a0) w fun v1 w1 =>
  RunV P (allocS 46 true (.tuple #[])) w1 fun v2 w2 =>
  LoadV P 74 v1 w2 fun v3 =>
  Sp P 58 [v3] w2 fun v4 w3 =>
  PureV P (unS .not v4) fun v5 =>
  IfP v5
  (PureV P (buildS 46 #[]) fun v6 =>
  StoreV P 46 v2 v6 w3 fun w4 =>
  LoadV P 46 v2 w4 fun v7 =>
  R (.tuple #[v7, (.bool false)]) w4)
  (LoadV P 74 v1 w3 fun v8 =>
  Sp P 62 [v8, a1] w3 fun v9 w5 =>
  PureV P (eqS .eql 3 true v9 (.int .i64 0)) fun v10 =>
  IfP v10
  (PureV P (buildS 46 #[]) fun v11 =>
  StoreV P 46 v2 v11 w5 fun w6 =>
  LoadV P 46 v2 w6 fun v12 =>
  R (.tuple #[v12, (.bool false)]) w6)
  (PureV P (faddrS 74 v1 0) fun v13 =>
  LoadV P 72 v13 w5 fun v14 =>
  PureV P (binS .sub 3 v9 (.int .i64 1)) fun v15 =>
  PureV P (iaddrS 72 v14 v15) fun v16 =>
  LoadV P 46 v16 w5 fun v17 =>
  StoreV P 46 v2 v17 w5 fun w7 =>
  LoadV P 46 v2 w7 fun v18 =>
  R (.tuple #[v18, (.bool true)]) w7))
theorem hb_object_Object_Read : HasBody Try.prog 37 = true := by kernel_rfl
theorem ok_object_Object_Read : codeOK 23 8388607 ((Try.f37.body).getD .skip) .nil = true := by kernel_rfl
theorem eq_object_Object_Read {a0 a1 : Value} (w : World) (R : Value → World → Prop) : wpA Try.prog ((Try.f37.body).getD .skip) .nil (retE Try.prog Try.f37.results R) (envA [a0, a1]) w = VC_object_Object_Read Try.prog a0 a1 w R := by kernel_rfl
theorem vc_object_Object_Read {a0 a1 : Value} {w : World} {R : Value → World → Prop} (h : VC_object_Object_Read Try.prog a0 a1 w R) : Sp Try.prog 37 [a0, a1] w R :=
  spec_of Try.func37 (c := (Try.f37.body).getD .skip) rfl hb_object_Object_Read mixed _ _ ok_object_Object_Read (by simp [Try.ntmps37]) (by rw [eq_object_Object_Read]; exact h)

/-- function 38: sautoir/keys.Right -/
def VC_keys_Right (P : Program) (a0 : Value) (w : World) (R : Value → World → Prop) : Prop :=
  PureV P (eqS .neq 9 true a0 (.string ⟨#[]⟩)) fun v1 =>
  GuardV v1 true (fun J => J a0 w) w fun v2 w1 =>
  GuardV v1 true (fun J => Sp P 63 [v2, (.int .i64 32)] w1 J) w1 fun v3 w2 =>
  PureV P (pickS v1 v3 (.bool false)) fun v4 =>
  R v4 w2
theorem hb_keys_Right : HasBody Try.prog 38 = true := by kernel_rfl
theorem ok_keys_Right : codeOK 9 511 ((Try.f38.body).getD .skip) .nil = true := by kernel_rfl
theorem eq_keys_Right {a0 : Value} (w : World) (R : Value → World → Prop) : wpA Try.prog ((Try.f38.body).getD .skip) .nil (retE Try.prog Try.f38.results R) (envA [a0]) w = VC_keys_Right Try.prog a0 w R := by kernel_rfl
theorem vc_keys_Right {a0 : Value} {w : World} {R : Value → World → Prop} (h : VC_keys_Right Try.prog a0 w R) : Sp Try.prog 38 [a0] w R :=
  spec_of Try.func38 (c := (Try.f38.body).getD .skip) rfl hb_keys_Right mixed _ _ ok_keys_Right (by simp [Try.ntmps38]) (by rw [eq_keys_Right]; exact h)

/-- function 39: (sautoir/object.Object).Put -/
def VC_object_Object_Put (P : Program) (a0 a1 a2 a3 : Value) (w : World) (R : Value → World → Prop) : Prop :=
  RunV P (boxS 74 a0) w fun v1 w1 =>
  RunV P (allocS 74 true (.tuple #[])) w1 fun v2 w2 =>
  LoadV P 74 v1 w2 fun v3 =>
  Sp P 32 [v3] w2 fun v4 w3 =>
  RunV P (allocS 46 true (.tuple #[])) w3 fun v5 w4 =>
  StoreV P 46 v5 v4 w4 fun w5 =>
  LoadV P 74 v1 w5 fun v6 =>
  Sp P 58 [v6] w5 fun v7 w6 =>
  PureV P (unS .not v7) fun v8 =>
  GuardV v8 false (fun J => J a1 w6) w6 fun v9 w7 =>
  GuardV v8 false (fun J => PureV P (binS .lss 3 v9 (.int .i64 1)) fun v11 => J v11 w7) w7 fun v10 w8 =>
  PureV P (pickS v8 (.bool true) v10) fun v12 =>
  GuardV v12 false (fun J => J a1 w8) w8 fun v13 w9 =>
  GuardV v12 false (fun J => PureV P (faddrS 46 v5 0) fun v15 => J v15 w9) w9 fun v14 w10 =>
  GuardV v12 false (fun J => LoadV P 3 v14 w10 fun v17 => J v17 w10) w10 fun v16 w11 =>
  GuardV v12 false (fun J => PureV P (binS .leq 3 v13 v16) fun v19 => J v19 w11) w11 fun v18 w12 =>
  PureV P (pickS v12 (.bool true) v18) fun v20 =>
  GuardV v20 false (fun J => J a2 w12) w12 fun v21 w13 =>
  GuardV v20 false (fun J => J a3 w13) w13 fun v22 w14 =>
  GuardV v20 false (fun J => Sp P 64 [v21, v22] w14 J) w14 fun v23 w15 =>
  GuardV v20 false (fun J => PureV P (unS .not v23) fun v25 => J v25 w15) w15 fun v24 w16 =>
  PureV P (pickS v20 (.bool true) v24) fun v26 =>
  IfP v26
  (PureV P (buildS 74 #[]) fun v27 =>
  StoreV P 74 v2 v27 w16 fun w17 =>
  LoadV P 74 v2 w17 fun v28 =>
  R (.tuple #[v28, (.int .i64 1)]) w17)
  (PureV P (faddrS 46 v5 1) fun v29 =>
  LoadV P 37 v29 w16 fun v30 =>
  PureV P (eqS .eql 37 true v30 (.int .u64 18446744073709551615)) fun v31 =>
  IfP v31
  (PureV P (buildS 74 #[]) fun v32 =>
  StoreV P 74 v2 v32 w16 fun w18 =>
  LoadV P 74 v2 w18 fun v33 =>
  R (.tuple #[v33, (.int .i64 9)]) w18)
  (Join (fun J1 : Value → World → Prop =>
  PureV P (faddrS 74 v1 0) fun v34 =>
  LoadV P 72 v34 (World.drew w16) fun v35 =>
  PureV P (faddrS 46 v5 1) fun v36 =>
  LoadV P 37 v36 (World.drew w16) fun v37 =>
  PureV P (binS .add 37 v37 (.int .u64 1)) fun v38 =>
  PureV P (buildS 46 #[(0, a1), (1, v38), (2, a2), (3, a3)]) fun v39 =>
  (Sp P 65 [v35] (World.drew w16) fun v40 w19 =>
  loadO P 37 v36 w19 = some v37 ∧
  RunV P (bsliceS 72 1 #[(0, v39)]) w19 fun v41 w20 =>
  RunV P (appS #[72, 72] 72 #[v40, v41]) w20 fun v42 w21 =>
  PureV P (buildS 74 #[(0, v42)]) fun v43 =>
  StoreV P 74 v2 v43 w21 fun w22 =>
  J1 (.int .i64 0) w22) ∧
  (RunV P (bsliceS 72 1 #[(0, v39)]) (World.drew w16) fun v44 w23 =>
  loadO P 72 v34 w23 = some v35 ∧
  Sp P 65 [v35] w23 fun v45 w24 =>
  RunV P (appS #[72, 72] 72 #[v45, v44]) w24 fun v46 w25 =>
  PureV P (buildS 74 #[(0, v46)]) fun v47 =>
  StoreV P 74 v2 v47 w25 fun w26 =>
  J1 (.int .i64 0) w26))
  (fun v48 w27 =>
  LoadV P 74 v2 w27 fun v49 =>
  R (.tuple #[v49, v48]) w27)))
theorem hb_object_Object_Put : HasBody Try.prog 39 = true := by kernel_rfl
theorem ok_object_Object_Put : codeOK 52 4503599627370495 ((Try.f39.body).getD .skip) (.node .nil (.node .nil (.node .nil (.node (.draw [0, 1, 3, 0, 0, 16, 48, 0, 0, 504, 1016, 2047, 4095, 8191, 16383] (.rd 0 (.rd 1 (.rd 3 (.rd 4 (.rd 5 (.rd 6 (.rd 7 (.rd 8 (.rd 9 (.both (.imp 2 [5] (.imp 10 [] (.imp 11 [] (.rd 12 (.imp 13 [] (.rd 14 .done)))))) (.imp 10 [1] (.imp 2 [] (.imp 11 [] (.rd 12 (.imp 13 [] (.rd 14 .done))))))))))))))))) .nil)))) = true := by kernel_rfl
theorem eq_object_Object_Put {a0 a1 a2 a3 : Value} (w : World) (R : Value → World → Prop) : wpA Try.prog ((Try.f39.body).getD .skip) (.node .nil (.node .nil (.node .nil (.node (.draw [0, 1, 3, 0, 0, 16, 48, 0, 0, 504, 1016, 2047, 4095, 8191, 16383] (.rd 0 (.rd 1 (.rd 3 (.rd 4 (.rd 5 (.rd 6 (.rd 7 (.rd 8 (.rd 9 (.both (.imp 2 [5] (.imp 10 [] (.imp 11 [] (.rd 12 (.imp 13 [] (.rd 14 .done)))))) (.imp 10 [1] (.imp 2 [] (.imp 11 [] (.rd 12 (.imp 13 [] (.rd 14 .done))))))))))))))))) .nil)))) (retE Try.prog Try.f39.results R) (envA [a0, a1, a2, a3]) w = VC_object_Object_Put Try.prog a0 a1 a2 a3 w R := by kernel_rfl
theorem vc_object_Object_Put {a0 a1 a2 a3 : Value} {w : World} {R : Value → World → Prop} (h : VC_object_Object_Put Try.prog a0 a1 a2 a3 w R) : Sp Try.prog 39 [a0, a1, a2, a3] w R :=
  spec_of Try.func39 (c := (Try.f39.body).getD .skip) rfl hb_object_Object_Put mixed _ _ ok_object_Object_Put (by simp [Try.ntmps39]) (by rw [eq_object_Object_Put]; exact h)

/-- function 40: slices.Equal[[]string,string] -/
def VC_slices_Equal_string_string (P : Program) (a0 a1 : Value) (w : World) (R : Value → World → Prop) : Prop :=
  ReadV P (lenS #[33] 3 #[a0]) w fun v1 =>
  ReadV P (lenS #[33] 3 #[a1]) w fun v2 =>
  PureV P (eqS .neq 3 false v1 v2) fun v3 =>
  IfP v3
  (R (.bool false) w)
  (ReadV P (lenS #[33] 3 #[a0]) w fun v4 =>
  LoopP [13] [(.int .i64 0)] w fun H1 m1 w1 =>
  PureV P (binS .lss 3 (m1 13) v4) fun v5 =>
  IfP v5
  (PureV P (iaddrS 33 a0 (m1 13)) fun v6 =>
  LoadV P 9 v6 (World.drew w1) fun v7 =>
  PureV P (iaddrS 33 a1 (m1 13)) fun v8 =>
  LoadV P 9 v8 (World.drew w1) fun v9 =>
  PureV P (eqS .neq 9 false v7 v9) fun v10 =>
  IfP v10
  (R (.bool false) (World.drew w1))
  (PureV P (binS .add 3 (m1 13) (.int .i64 1)) fun v11 =>
  H1 [v11] (World.drew w1)))
  (R (.bool true) w1))
theorem hb_slices_Equal_string_string : HasBody Try.prog 40 = true := by kernel_rfl
theorem ok_slices_Equal_string_string : codeOK 26 67108863 ((Try.f40.body).getD .skip) (.node .nil (.node .nil (.node (.node .nil (.node (.loop 67100720 [13] (.node .nil (.node .nil (.node (.node (.node .nil (.node (.draw [0, 0, 3, 7, 0, 0, 48, 112, 255] (.rd 0 (.rd 1 (.rd 2 (.rd 3 (.rd 4 (.rd 5 (.rd 6 (.rd 7 (.rd 8 .done)))))))))) .nil)) .nil) .nil)))) .nil)) .nil))) = true := by kernel_rfl
theorem eq_slices_Equal_string_string {a0 a1 : Value} (w : World) (R : Value → World → Prop) : wpA Try.prog ((Try.f40.body).getD .skip) (.node .nil (.node .nil (.node (.node .nil (.node (.loop 67100720 [13] (.node .nil (.node .nil (.node (.node (.node .nil (.node (.draw [0, 0, 3, 7, 0, 0, 48, 112, 255] (.rd 0 (.rd 1 (.rd 2 (.rd 3 (.rd 4 (.rd 5 (.rd 6 (.rd 7 (.rd 8 .done)))))))))) .nil)) .nil) .nil)))) .nil)) .nil))) (retE Try.prog Try.f40.results R) (envA [a0, a1]) w = VC_slices_Equal_string_string Try.prog a0 a1 w R := by kernel_rfl
theorem vc_slices_Equal_string_string {a0 a1 : Value} {w : World} {R : Value → World → Prop} (h : VC_slices_Equal_string_string Try.prog a0 a1 w R) : Sp Try.prog 40 [a0, a1] w R :=
  spec_of Try.func40 (c := (Try.f40.body).getD .skip) rfl hb_slices_Equal_string_string mixed _ _ ok_slices_Equal_string_string (by simp [Try.ntmps40]) (by rw [eq_slices_Equal_string_string]; exact h)

/-- function 41: sautoir/object.Same -/
def VC_object_Same (P : Program) (a0 a1 : Value) (w : World) (R : Value → World → Prop) : Prop :=
  RunV P (boxS 74 a0) w fun v1 w1 =>
  RunV P (boxS 74 a1) w1 fun v2 w2 =>
  PureV P (faddrS 74 v1 0) fun v3 =>
  LoadV P 72 v3 w2 fun v4 =>
  PureV P (faddrS 74 v2 0) fun v5 =>
  LoadV P 72 v5 w2 fun v6 =>
  Sp P 66 [v4, v6] w2 fun v7 w3 =>
  R v7 w3
theorem hb_object_Same : HasBody Try.prog 41 = true := by kernel_rfl
theorem ok_object_Same : codeOK 10 1023 ((Try.f41.body).getD .skip) .nil = true := by kernel_rfl
theorem eq_object_Same {a0 a1 : Value} (w : World) (R : Value → World → Prop) : wpA Try.prog ((Try.f41.body).getD .skip) .nil (retE Try.prog Try.f41.results R) (envA [a0, a1]) w = VC_object_Same Try.prog a0 a1 w R := by kernel_rfl
theorem vc_object_Same {a0 a1 : Value} {w : World} {R : Value → World → Prop} (h : VC_object_Same Try.prog a0 a1 w R) : Sp Try.prog 41 [a0, a1] w R :=
  spec_of Try.func41 (c := (Try.f41.body).getD .skip) rfl hb_object_Same mixed _ _ ok_object_Same (by simp [Try.ntmps41]) (by rw [eq_object_Same]; exact h)

/-- function 49: sautoir/sautoirref08.Right -/
def VC_sautoirref08_Right (P : Program) (a0 : Value) (w : World) (R : Value → World → Prop) : Prop :=
  ReadV P (lenS #[9] 3 #[a0]) w fun v1 =>
  PureV P (binS .geq 3 v1 (.int .i64 1)) fun v2 =>
  GuardV v2 true (fun J => J a0 w) w fun v3 w1 =>
  GuardV v2 true (fun J => ReadV P (lenS #[9] 3 #[v3]) w1 fun v5 => J v5 w1) w1 fun v4 w2 =>
  GuardV v2 true (fun J => PureV P (binS .leq 3 v4 (.int .i64 32)) fun v7 => J v7 w2) w2 fun v6 w3 =>
  PureV P (pickS v2 v6 (.bool false)) fun v8 =>
  GuardV v8 true (fun J => J a0 w3) w3 fun v9 w4 =>
  GuardV v8 true (fun J => Sp P 77 [v9] w4 J) w4 fun v10 w5 =>
  PureV P (pickS v8 v10 (.bool false)) fun v11 =>
  R v11 w5
theorem hb_sautoirref08_Right : HasBody Try.prog 49 = true := by kernel_rfl
theorem ok_sautoirref08_Right : codeOK 15 32767 ((Try.f49.body).getD .skip) .nil = true := by kernel_rfl
theorem eq_sautoirref08_Right {a0 : Value} (w : World) (R : Value → World → Prop) : wpA Try.prog ((Try.f49.body).getD .skip) .nil (retE Try.prog Try.f49.results R) (envA [a0]) w = VC_sautoirref08_Right Try.prog a0 w R := by kernel_rfl
theorem vc_sautoirref08_Right {a0 : Value} {w : World} {R : Value → World → Prop} (h : VC_sautoirref08_Right Try.prog a0 w R) : Sp Try.prog 49 [a0] w R :=
  spec_of Try.func49 (c := (Try.f49.body).getD .skip) rfl hb_sautoirref08_Right mixed _ _ ok_sautoirref08_Right (by simp [Try.ntmps49]) (by rw [eq_sautoirref08_Right]; exact h)

/-- function 50: sautoir/sautoirref09.May -/
def VC_sautoirref09_May (P : Program) (a0 a1 : Value) (w : World) (R : Value → World → Prop) : Prop :=
  IfP a1
  (PureV P (eqS .eql 9 true a0 (.string ⟨#[]⟩)) fun v1 =>
  R v1 w)
  (Sp P 78 [a0] w fun v2 w1 =>
  R v2 w1)
theorem hb_sautoirref09_May : HasBody Try.prog 50 = true := by kernel_rfl
theorem ok_sautoirref09_May : codeOK 10 1023 ((Try.f50.body).getD .skip) .nil = true := by kernel_rfl
theorem eq_sautoirref09_May {a0 a1 : Value} (w : World) (R : Value → World → Prop) : wpA Try.prog ((Try.f50.body).getD .skip) .nil (retE Try.prog Try.f50.results R) (envA [a0, a1]) w = VC_sautoirref09_May Try.prog a0 a1 w R := by kernel_rfl
theorem vc_sautoirref09_May {a0 a1 : Value} {w : World} {R : Value → World → Prop} (h : VC_sautoirref09_May Try.prog a0 a1 w R) : Sp Try.prog 50 [a0, a1] w R :=
  spec_of Try.func50 (c := (Try.f50.body).getD .skip) rfl hb_sautoirref09_May mixed _ _ ok_sautoirref09_May (by simp [Try.ntmps50]) (by rw [eq_sautoirref09_May]; exact h)

/-- function 51: (*sautoir/sautoirref10.Space).set -/
def VC_sautoirref10_Space_set (P : Program) (a0 a1 a2 : Value) (w : World) (R : Value → World → Prop) : Prop :=
  ReadV P (lenS #[34] 3 #[a2]) w fun v1 =>
  PureV P (eqS .eql 3 true v1 (.int .i64 0)) fun v2 =>
  PureV P (nilS a0) fun v3 =>
  PureV P (faddrS 28 v3 0) fun v4 =>
  LoadV P 26 v4 w fun v5 =>
  ReadV P (lenS #[26] 3 #[v5]) w fun v6 =>
  LoopP [6, 7, 18] [(.slice none 0 0), v2, (.int .i64 0)] w fun H1 m1 w1 =>
  PureV P (binS .lss 3 (m1 18) v6) fun v7 =>
  IfP v7
  (Join (fun J2 : Value → Value → World → Prop =>
  PureV P (iaddrS 26 v5 (m1 18)) fun v8 =>
  LoadV P 36 v8 w1 fun v9 =>
  RunV P (allocS 36 true (.tuple #[])) w1 fun v10 w2 =>
  StoreV P 36 v10 v9 w2 fun w3 =>
  Join (fun J3 : Value → Value → World → Prop =>
  PureV P (unS .not (m1 7)) fun v11 =>
  GuardV v11 true (fun J => PureV P (faddrS 36 v10 0) fun v13 => J v13 w3) w3 fun v12 w4 =>
  GuardV v11 true (fun J => LoadV P 9 v12 w4 fun v15 => J v15 w4) w4 fun v14 w5 =>
  GuardV v11 true (fun J => J a1 w5) w5 fun v16 w6 =>
  GuardV v11 true (fun J => PureV P (binS .geq 9 v14 v16) fun v18 => J v18 w6) w6 fun v17 w7 =>
  PureV P (pickS v11 v17 (.bool false)) fun v19 =>
  IfP v19
  (PureV P (buildS 36 #[(0, a1), (1, a2)]) fun v20 =>
  RunV P (bsliceS 26 1 #[(0, v20)]) w7 fun v21 w8 =>
  RunV P (appS #[26, 26] 26 #[(m1 6), v21]) w8 fun v22 w9 =>
  J3 v22 (.bool true) w9)
  (J3 (m1 6) (m1 7) w7))
  (fun v23 v24 w10 =>
  PureV P (faddrS 36 v10 0) fun v25 =>
  LoadV P 9 v25 w10 fun v26 =>
  PureV P (eqS .neq 9 false v26 a1) fun v27 =>
  IfP v27
  (LoadV P 36 v10 w10 fun v28 =>
  RunV P (bsliceS 26 1 #[(0, v28)]) w10 fun v29 w11 =>
  RunV P (appS #[26, 26] 26 #[v23, v29]) w11 fun v30 w12 =>
  J2 v30 v24 w12)
  (J2 v23 v24 w10)))
  (fun v31 v32 w13 =>
  PureV P (binS .add 3 (m1 18) (.int .i64 1)) fun v33 =>
  H1 [v31, v32, v33] w13))
  (Join (fun J4 : Value → World → Prop =>
  PureV P (unS .not (m1 7)) fun v34 =>
  IfP v34
  (PureV P (buildS 36 #[(0, a1), (1, a2)]) fun v35 =>
  RunV P (bsliceS 26 1 #[(0, v35)]) w1 fun v36 w14 =>
  RunV P (appS #[26, 26] 26 #[(m1 6), v36]) w14 fun v37 w15 =>
  J4 v37 w15)
  (J4 (m1 6) w1))
  (fun v38 w16 =>
  PureV P (nilS a0) fun v39 =>
  PureV P (faddrS 28 v39 0) fun v40 =>
  StoreV P 26 v40 v38 w16 fun w17 =>
  R (.tuple #[]) w17))
theorem hb_sautoirref10_Space_set : HasBody Try.prog 51 = true := by kernel_rfl
theorem ok_sautoirref10_Space_set : codeOK 57 144115188075855871 ((Try.f51.body).getD .skip) (.node .nil (.node .nil (.node (.node .nil (.node (.loop 35184371827392 [6, 7, 18] .nil) .nil)) .nil))) = true := by kernel_rfl
theorem eq_sautoirref10_Space_set {a0 a1 a2 : Value} (w : World) (R : Value → World → Prop) : wpA Try.prog ((Try.f51.body).getD .skip) (.node .nil (.node .nil (.node (.node .nil (.node (.loop 35184371827392 [6, 7, 18] .nil) .nil)) .nil))) (retE Try.prog Try.f51.results R) (envA [a0, a1, a2]) w = VC_sautoirref10_Space_set Try.prog a0 a1 a2 w R := by kernel_rfl
theorem vc_sautoirref10_Space_set {a0 a1 a2 : Value} {w : World} {R : Value → World → Prop} (h : VC_sautoirref10_Space_set Try.prog a0 a1 a2 w R) : Sp Try.prog 51 [a0, a1, a2] w R :=
  spec_of Try.func51 (c := (Try.f51.body).getD .skip) rfl hb_sautoirref10_Space_set mixed _ _ ok_sautoirref10_Space_set (by simp [Try.ntmps51]) (by rw [eq_sautoirref10_Space_set]; exact h)

/-- function 52: (*sautoir/space.Space).turn -/
def VC_space_Space_turn (P : Program) (a0 a1 : Value) (w : World) (R : Value → World → Prop) : Prop :=
  Sp P 12 [a0] w fun v1 w1 =>
  ReadV P (lenS #[33] 3 #[v1]) w1 fun v2 =>
  LoopP [10] [(.int .i64 0)] w1 fun H1 m1 w2 =>
  PureV P (binS .lss 3 (m1 10) v2) fun v3 =>
  IfP v3
  (Join (fun J2 : World → Prop =>
  PureV P (iaddrS 33 v1 (m1 10)) fun v4 =>
  LoadV P 9 v4 w2 fun v5 =>
  PureV P (nilS a0) fun v6 =>
  PureV P (faddrS 67 v6 0) fun v7 =>
  LoadV P 65 v7 w2 fun v8 =>
  ReadV P (lookS 65 v8 v5 false) w2 fun v9 =>
  CallV P a1 [v9] w2 fun v10 w3 =>
  RunV P (allocS 74 true (.tuple #[])) w3 fun v11 w4 =>
  StoreV P 74 v11 v10 w4 fun w5 =>
  PureV P (faddrS 74 v11 0) fun v12 =>
  LoadV P 72 v12 w5 fun v13 =>
  ReadV P (lenS #[72] 3 #[v13]) w5 fun v14 =>
  PureV P (eqS .eql 3 true v14 (.int .i64 0)) fun v15 =>
  IfP v15
  (PureV P (nilS a0) fun v16 =>
  PureV P (faddrS 67 v16 0) fun v17 =>
  LoadV P 65 v17 w5 fun v18 =>
  RunV P (delS #[65, 9] 0 #[v18, v5]) w5 fun v19 w6 =>
  J2 w6)
  (PureV P (nilS a0) fun v20 =>
  PureV P (faddrS 67 v20 0) fun v21 =>
  LoadV P 65 v21 (World.drew w5) fun v22 =>
  LoadV P 74 v11 (World.drew w5) fun v23 =>
  RunU P (mapupS 65 v22 v5 v23) (World.drew w5) fun w7 =>
  J2 w7))
  (fun w8 =>
  PureV P (binS .add 3 (m1 10) (.int .i64 1)) fun v24 =>
  H1 [v24] w8))
  (R (.tuple #[]) w2)
theorem hb_space_Space_turn : HasBody Try.prog 52 = true := by kernel_rfl
theorem ok_space_Space_turn : codeOK 38 274877906943 ((Try.f52.body).getD .skip) (.node .nil (.node (.loop 274877906016 [10] (.node .nil (.node .nil (.node (.node (.node .nil (.node .nil (.node .nil (.draw [0, 1, 3, 7, 0, 0, 63] (.rd 0 (.rd 1 (.rd 2 (.rd 3 (.rd 4 (.rd 5 (.imp 6 [] .done))))))))))) .nil) .nil)))) .nil)) = true := by kernel_rfl
theorem eq_space_Space_turn {a0 a1 : Value} (w : World) (R : Value → World → Prop) : wpA Try.prog ((Try.f52.body).getD .skip) (.node .nil (.node (.loop 274877906016 [10] (.node .nil (.node .nil (.node (.node (.node .nil (.node .nil (.node .nil (.draw [0, 1, 3, 7, 0, 0, 63] (.rd 0 (.rd 1 (.rd 2 (.rd 3 (.rd 4 (.rd 5 (.imp 6 [] .done))))))))))) .nil) .nil)))) .nil)) (retE Try.prog Try.f52.results R) (envA [a0, a1]) w = VC_space_Space_turn Try.prog a0 a1 w R := by kernel_rfl
theorem vc_space_Space_turn {a0 a1 : Value} {w : World} {R : Value → World → Prop} (h : VC_space_Space_turn Try.prog a0 a1 w R) : Sp Try.prog 52 [a0, a1] w R :=
  spec_of Try.func52 (c := (Try.f52.body).getD .skip) rfl hb_space_Space_turn mixed _ _ ok_space_Space_turn (by simp [Try.ntmps52]) (by rw [eq_space_Space_turn]; exact h)

/-- function 53: (*sautoir/space.Space).Undo$1 -/
def VC_space_Space_Undo_1 (P : Program) (a0 a1 : Value) (w : World) (R : Value → World → Prop) : Prop :=
  RunV P (boxS 74 a0) w fun v1 w1 =>
  RunV P (allocS 74 true (.tuple #[])) w1 fun v2 w2 =>
  LoadV P 74 v1 w2 fun v3 =>
  LoadV P 3 a1 w2 fun v4 =>
  Sp P 54 [v3, v4] w2 fun v5 w3 =>
  StoreV P 74 v2 v5 w3 fun w4 =>
  LoadV P 74 v2 w4 fun v6 =>
  R v6 w4
theorem hb_space_Space_Undo_1 : HasBody Try.prog 53 = true := by kernel_rfl
theorem ok_space_Space_Undo_1 : codeOK 7 127 ((Try.f53.body).getD .skip) .nil = true := by kernel_rfl
theorem eq_space_Space_Undo_1 {a0 a1 : Value} (w : World) (R : Value → World → Prop) : wpA Try.prog ((Try.f53.body).getD .skip) .nil (retE Try.prog Try.f53.results R) (envA [a0, a1]) w = VC_space_Space_Undo_1 Try.prog a0 a1 w R := by kernel_rfl
theorem vc_space_Space_Undo_1 {a0 a1 : Value} {w : World} {R : Value → World → Prop} (h : VC_space_Space_Undo_1 Try.prog a0 a1 w R) : Sp Try.prog 53 [a0, a1] w R :=
  spec_of Try.func53 (c := (Try.f53.body).getD .skip) rfl hb_space_Space_Undo_1 mixed _ _ ok_space_Space_Undo_1 (by simp [Try.ntmps53]) (by rw [eq_space_Space_Undo_1]; exact h)

/-- function 54: (sautoir/object.Object).Undo -/
def VC_object_Object_Undo (P : Program) (a0 a1 : Value) (w : World) (R : Value → World → Prop) : Prop :=
  RunV P (boxS 74 a0) w fun v1 w1 =>
  RunV P (allocS 74 true (.tuple #[])) w1 fun v2 w2 =>
  LoadV P 74 v1 w2 fun v3 =>
  Sp P 58 [v3] w2 fun v4 w3 =>
  PureV P (unS .not v4) fun v5 =>
  IfP v5
  (PureV P (buildS 74 #[]) fun v6 =>
  StoreV P 74 v2 v6 w3 fun w4 =>
  LoadV P 74 v2 w4 fun v7 =>
  R v7 w4)
  (PureV P (faddrS 74 v1 0) fun v8 =>
  LoadV P 72 v8 (World.drew w3) fun v9 =>
  LoadV P 74 v1 (World.drew w3) fun v10 =>
  Sp P 62 [v10, a1] (World.drew w3) fun v11 w5 =>
  loadO P 72 v8 w5 = some v9 ∧
  PureV P (sliceS 72 v9 none (some v11) none) fun v12 =>
  Sp P 65 [v12] w5 fun v13 w6 =>
  PureV P (buildS 74 #[(0, v13)]) fun v14 =>
  StoreV P 74 v2 v14 w6 fun w7 =>
  LoadV P 74 v2 w7 fun v15 =>
  R v15 w7)
theorem hb_object_Object_Undo : HasBody Try.prog 54 = true := by kernel_rfl
theorem ok_object_Object_Undo : codeOK 17 131071 ((Try.f54.body).getD .skip) (.node .nil (.node .nil (.node (.draw [0, 1, 0, 0, 12, 31, 63, 127, 255] (.rd 0 (.rd 1 (.rd 2 (.rd 3 (.imp 4 [1] (.rd 5 (.imp 6 [] (.rd 7 (.imp 8 [] .done)))))))))) .nil))) = true := by kernel_rfl
theorem eq_object_Object_Undo {a0 a1 : Value} (w : World) (R : Value → World → Prop) : wpA Try.prog ((Try.f54.body).getD .skip) (.node .nil (.node .nil (.node (.draw [0, 1, 0, 0, 12, 31, 63, 127, 255] (.rd 0 (.rd 1 (.rd 2 (.rd 3 (.imp 4 [1] (.rd 5 (.imp 6 [] (.rd 7 (.imp 8 [] .done)))))))))) .nil))) (retE Try.prog Try.f54.results R) (envA [a0, a1]) w = VC_object_Object_Undo Try.prog a0 a1 w R := by kernel_rfl
theorem vc_object_Object_Undo {a0 a1 : Value} {w : World} {R : Value → World → Prop} (h : VC_object_Object_Undo Try.prog a0 a1 w R) : Sp Try.prog 54 [a0, a1] w R :=
  spec_of Try.func54 (c := (Try.f54.body).getD .skip) rfl hb_object_Object_Undo mixed _ _ ok_object_Object_Undo (by simp [Try.ntmps54]) (by rw [eq_object_Object_Undo]; exact h)

/-- function 55: (*sautoir/space.Space).Clean$1 -/
def VC_space_Space_Clean_1 (P : Program) (a0 a1 : Value) (w : World) (R : Value → World → Prop) : Prop :=
  RunV P (boxS 74 a0) w fun v1 w1 =>
  RunV P (allocS 74 true (.tuple #[])) w1 fun v2 w2 =>
  LoadV P 74 v1 w2 fun v3 =>
  LoadV P 3 a1 w2 fun v4 =>
  Sp P 56 [v3, v4] w2 fun v5 w3 =>
  StoreV P 74 v2 v5 w3 fun w4 =>
  LoadV P 74 v2 w4 fun v6 =>
  R v6 w4
theorem hb_space_Space_Clean_1 : HasBody Try.prog 55 = true := by kernel_rfl
theorem ok_space_Space_Clean_1 : codeOK 7 127 ((Try.f55.body).getD .skip) .nil = true := by kernel_rfl
theorem eq_space_Space_Clean_1 {a0 a1 : Value} (w : World) (R : Value → World → Prop) : wpA Try.prog ((Try.f55.body).getD .skip) .nil (retE Try.prog Try.f55.results R) (envA [a0, a1]) w = VC_space_Space_Clean_1 Try.prog a0 a1 w R := by kernel_rfl
theorem vc_space_Space_Clean_1 {a0 a1 : Value} {w : World} {R : Value → World → Prop} (h : VC_space_Space_Clean_1 Try.prog a0 a1 w R) : Sp Try.prog 55 [a0, a1] w R :=
  spec_of Try.func55 (c := (Try.f55.body).getD .skip) rfl hb_space_Space_Clean_1 mixed _ _ ok_space_Space_Clean_1 (by simp [Try.ntmps55]) (by rw [eq_space_Space_Clean_1]; exact h)

/-- function 56: (sautoir/object.Object).Clean -/
def VC_object_Object_Clean (P : Program) (a0 a1 : Value) (w : World) (R : Value → World → Prop) : Prop :=
  RunV P (boxS 74 a0) w fun v1 w1 =>
  RunV P (allocS 74 true (.tuple #[])) w1 fun v2 w2 =>
  LoadV P 74 v1 w2 fun v3 =>
  Sp P 58 [v3] w2 fun v4 w3 =>
  PureV P (unS .not v4) fun v5 =>
  IfP v5
  (PureV P (buildS 74 #[]) fun v6 =>
  StoreV P 74 v2 v6 w3 fun w4 =>
  LoadV P 74 v2 w4 fun v7 =>
  R v7 w4)
  (PureV P (faddrS 74 v1 0) fun v8 =>
  LoadV P 72 v8 (World.drew w3) fun v9 =>
  LoadV P 74 v1 (World.drew w3) fun v10 =>
  Sp P 62 [v10, a1] (World.drew w3) fun v11 w5 =>
  loadO P 72 v8 w5 = some v9 ∧
  PureV P (binS .sub 3 v11 (.int .i64 1)) fun v12 =>
  ReadV P (maxS #[3, 3] 3 #[v12, (.int .i64 0)]) w5 fun v13 =>
  PureV P (sliceS 72 v9 (some v13) none none) fun v14 =>
  Sp P 65 [v14] w5 fun v15 w6 =>
  PureV P (buildS 74 #[(0, v15)]) fun v16 =>
  StoreV P 74 v2 v16 w6 fun w7 =>
  LoadV P 74 v2 w7 fun v17 =>
  R v17 w7)
theorem hb_object_Object_Clean : HasBody Try.prog 56 = true := by kernel_rfl
theorem ok_object_Object_Clean : codeOK 19 524287 ((Try.f56.body).getD .skip) (.node .nil (.node .nil (.node (.draw [0, 1, 0, 0, 12, 28, 60, 127, 255, 511, 1023] (.rd 0 (.rd 1 (.rd 2 (.rd 3 (.imp 4 [1] (.rd 5 (.rd 6 (.rd 7 (.imp 8 [] (.rd 9 (.imp 10 [] .done)))))))))))) .nil))) = true := by kernel_rfl
theorem eq_object_Object_Clean {a0 a1 : Value} (w : World) (R : Value → World → Prop) : wpA Try.prog ((Try.f56.body).getD .skip) (.node .nil (.node .nil (.node (.draw [0, 1, 0, 0, 12, 28, 60, 127, 255, 511, 1023] (.rd 0 (.rd 1 (.rd 2 (.rd 3 (.imp 4 [1] (.rd 5 (.rd 6 (.rd 7 (.imp 8 [] (.rd 9 (.imp 10 [] .done)))))))))))) .nil))) (retE Try.prog Try.f56.results R) (envA [a0, a1]) w = VC_object_Object_Clean Try.prog a0 a1 w R := by kernel_rfl
theorem vc_object_Object_Clean {a0 a1 : Value} {w : World} {R : Value → World → Prop} (h : VC_object_Object_Clean Try.prog a0 a1 w R) : Sp Try.prog 56 [a0, a1] w R :=
  spec_of Try.func56 (c := (Try.f56.body).getD .skip) rfl hb_object_Object_Clean mixed _ _ ok_object_Object_Clean (by simp [Try.ntmps56]) (by rw [eq_object_Object_Clean]; exact h)

/-- function 57: sautoir/sautoirref09.Clean -/
def VC_sautoirref09_Clean (P : Program) (a0 a1 : Value) (w : World) (R : Value → World → Prop) : Prop :=
  Sp P 30 [a0, a1] w fun v1 w1 =>
  PureV P (extrS v1 0) fun v2 =>
  PureV P (extrS v1 1) fun v3 =>
  RunV P (allocS 40 true (.tuple #[])) w1 fun v4 w2 =>
  StoreV P 40 v4 v2 w2 fun w3 =>
  ReadV P (lenS #[34] 3 #[a0]) w3 fun v5 =>
  LoopP [7, 18] [(.slice none 0 0), (.int .i64 0)] w3 fun H1 m1 w4 =>
  PureV P (binS .lss 3 (m1 18) v5) fun v6 =>
  IfP v6
  (Join (fun J2 : Value → World → Prop =>
  PureV P (iaddrS 34 a0 (m1 18)) fun v7 =>
  LoadV P 40 v7 w4 fun v8 =>
  RunV P (allocS 40 true (.tuple #[])) w4 fun v9 w5 =>
  StoreV P 40 v9 v8 w5 fun w6 =>
  PureV P (unS .not v3) fun v10 =>
  GuardV v10 false (fun J => PureV P (faddrS 40 v9 0) fun v12 => J v12 w6) w6 fun v11 w7 =>
  GuardV v10 false (fun J => LoadV P 3 v11 w7 fun v14 => J v14 w7) w7 fun v13 w8 =>
  GuardV v10 false (fun J => PureV P (faddrS 40 v4 0) fun v16 => J v16 w8) w8 fun v15 w9 =>
  GuardV v10 false (fun J => LoadV P 3 v15 w9 fun v18 => J v18 w9) w9 fun v17 w10 =>
  GuardV v10 false (fun J => PureV P (binS .geq 3 v13 v17) fun v20 => J v20 w10) w10 fun v19 w11 =>
  PureV P (pickS v10 (.bool true) v19) fun v21 =>
  IfP v21
  (LoadV P 40 v9 w11 fun v22 =>
  RunV P (bsliceS 34 1 #[(0, v22)]) w11 fun v23 w12 =>
  RunV P (appS #[34, 34] 34 #[(m1 7), v23]) w12 fun v24 w13 =>
  J2 v24 w13)
  (J2 (m1 7) w11))
  (fun v25 w14 =>
  PureV P (binS .add 3 (m1 18) (.int .i64 1)) fun v26 =>
  H1 [v25, v26] w14))
  (R (m1 7) w4)
theorem hb_sautoirref09_Clean : HasBody Try.prog 57 = true := by kernel_rfl
theorem ok_sautoirref09_Clean : codeOK 37 137438953471 ((Try.f57.body).getD .skip) (.node .nil (.node .nil (.node .nil (.node (.node .nil (.node (.loop 68719215232 [7, 18] .nil) .nil)) .nil)))) = true := by kernel_rfl
theorem eq_sautoirref09_Clean {a0 a1 : Value} (w : World) (R : Value → World → Prop) : wpA Try.prog ((Try.f57.body).getD .skip) (.node .nil (.node .nil (.node .nil (.node (.node .nil (.node (.loop 68719215232 [7, 18] .nil) .nil)) .nil)))) (retE Try.prog Try.f57.results R) (envA [a0, a1]) w = VC_sautoirref09_Clean Try.prog a0 a1 w R := by kernel_rfl
theorem vc_sautoirref09_Clean {a0 a1 : Value} {w : World} {R : Value → World → Prop} (h : VC_sautoirref09_Clean Try.prog a0 a1 w R) : Sp Try.prog 57 [a0, a1] w R :=
  spec_of Try.func57 (c := (Try.f57.body).getD .skip) rfl hb_sautoirref09_Clean mixed _ _ ok_sautoirref09_Clean (by simp [Try.ntmps57]) (by rw [eq_sautoirref09_Clean]; exact h)

/-- function 58: sautoir/object.Right -/
def VC_object_Right (P : Program) (a0 : Value) (w : World) (R : Value → World → Prop) : Prop :=
  RunV P (boxS 74 a0) w fun v1 w1 =>
  PureV P (faddrS 74 v1 0) fun v2 =>
  LoadV P 72 v2 w1 fun v3 =>
  ReadV P (lenS #[72] 3 #[v3]) w1 fun v4 =>
  LoopP [8] [(.int .i64 0)] w1 fun H1 m1 w2 =>
  PureV P (binS .lss 3 (m1 8) v4) fun v5 =>
  IfP v5
  (PureV P (iaddrS 72 v3 (m1 8)) fun v6 =>
  LoadV P 46 v6 w2 fun v7 =>
  RunV P (allocS 46 true (.tuple #[])) w2 fun v8 w3 =>
  StoreV P 46 v8 v7 w3 fun w4 =>
  PureV P (faddrS 46 v8 0) fun v9 =>
  LoadV P 3 v9 w4 fun v10 =>
  PureV P (binS .lss 3 v10 (.int .i64 1)) fun v11 =>
  GuardV v11 false (fun J => PureV P (faddrS 46 v8 1) fun v13 => J v13 w4) w4 fun v12 w5 =>
  GuardV v11 false (fun J => LoadV P 37 v12 w5 fun v15 => J v15 w5) w5 fun v14 w6 =>
  GuardV v11 false (fun J => PureV P (binS .lss 37 v14 (.int .u64 1)) fun v17 => J v17 w6) w6 fun v16 w7 =>
  PureV P (pickS v11 (.bool true) v16) fun v18 =>
  GuardV v18 false (fun J => PureV P (faddrS 46 v8 2) fun v20 => J v20 w7) w7 fun v19 w8 =>
  GuardV v18 false (fun J => LoadV P 9 v19 w8 fun v22 => J v22 w8) w8 fun v21 w9 =>
  GuardV v18 false (fun J => PureV P (faddrS 46 v8 3) fun v24 => J v24 w9) w9 fun v23 w10 =>
  GuardV v18 false (fun J => LoadV P 4 v23 w10 fun v26 => J v26 w10) w10 fun v25 w11 =>
  GuardV v18 false (fun J => Sp P 64 [v21, v25] w11 J) w11 fun v27 w12 =>
  GuardV v18 false (fun J => PureV P (unS .not v27) fun v29 => J v29 w12) w12 fun v28 w13 =>
  PureV P (pickS v18 (.bool true) v28) fun v30 =>
  IfP v30
  (R (.bool false) w13)
  (PureV P (binS .gtr 3 (m1 8) (.int .i64 0)) fun v31 =>
  GuardV v31 true (fun J => PureV P (faddrS 46 v8 0) fun v33 => J v33 (World.drew w13)) (World.drew w13) fun v32 _ =>
  GuardV v31 true (fun J => LoadV P 3 v32 (World.drew w13) fun v35 => J v35 (World.drew w13)) (World.drew w13) fun v34 _ =>
  GuardV v31 true (fun J => PureV P (faddrS 74 v1 0) fun v37 => J v37 (World.drew w13)) (World.drew w13) fun v36 _ =>
  GuardV v31 true (fun J => LoadV P 72 v36 (World.drew w13) fun v39 => J v39 (World.drew w13)) (World.drew w13) fun v38 _ =>
  GuardV v31 true (fun J => J (m1 8) (World.drew w13)) (World.drew w13) fun v40 _ =>
  GuardV v31 true (fun J => PureV P (binS .sub 3 v40 (.int .i64 1)) fun v42 => J v42 (World.drew w13)) (World.drew w13) fun v41 _ =>
  GuardV v31 true (fun J => PureV P (iaddrS 72 v38 v41) fun v44 => J v44 (World.drew w13)) (World.drew w13) fun v43 _ =>
  GuardV v31 true (fun J => PureV P (faddrS 46 v43 0) fun v46 => J v46 (World.drew w13)) (World.drew w13) fun v45 _ =>
  GuardV v31 true (fun J => LoadV P 3 v45 (World.drew w13) fun v48 => J v48 (World.drew w13)) (World.drew w13) fun v47 _ =>
  GuardV v31 true (fun J => PureV P (binS .leq 3 v34 v47) fun v50 => J v50 (World.drew w13)) (World.drew w13) fun v49 _ =>
  GuardV v31 true (fun J => J v49 (World.drew w13)) (World.drew w13) fun v51 _ =>
  GuardV v51 false (fun J => PureV P (faddrS 46 v8 1) fun v53 => J v53 (World.drew w13)) (World.drew w13) fun v52 _ =>
  GuardV v51 false (fun J => LoadV P 37 v52 (World.drew w13) fun v55 => J v55 (World.drew w13)) (World.drew w13) fun v54 _ =>
  GuardV v51 false (fun J => PureV P (binS .sub 37 v54 (.int .u64 1)) fun v57 => J v57 (World.drew w13)) (World.drew w13) fun v56 _ =>
  GuardV v51 false (fun J => PureV P (faddrS 74 v1 0) fun v59 => J v59 (World.drew w13)) (World.drew w13) fun v58 _ =>
  GuardV v51 false (fun J => LoadV P 72 v58 (World.drew w13) fun v61 => J v61 (World.drew w13)) (World.drew w13) fun v60 _ =>
  GuardV v51 false (fun J => J (m1 8) (World.drew w13)) (World.drew w13) fun v62 _ =>
  GuardV v51 false (fun J => PureV P (binS .sub 3 v62 (.int .i64 1)) fun v64 => J v64 (World.drew w13)) (World.drew w13) fun v63 _ =>
  GuardV v51 false (fun J => PureV P (iaddrS 72 v60 v63) fun v66 => J v66 (World.drew w13)) (World.drew w13) fun v65 _ =>
  GuardV v51 false (fun J => PureV P (faddrS 46 v65 1) fun v68 => J v68 (World.drew w13)) (World.drew w13) fun v67 _ =>
  GuardV v51 false (fun J => LoadV P 37 v67 (World.drew w13) fun v70 => J v70 (World.drew w13)) (World.drew w13) fun v69 _ =>
  GuardV v51 false (fun J => PureV P (eqS .neq 37 false v56 v69) fun v72 => J v72 (World.drew w13)) (World.drew w13) fun v71 _ =>
  GuardV v31 true (fun J => PureV P (pickS v51 (.bool true) v71) fun v74 => J v74 (World.drew w13)) (World.drew w13) fun v73 _ =>
  PureV P (pickS v31 v73 (.bool false)) fun v75 =>
  IfP v75
  (R (.bool false) (World.drew w13))
  (PureV P (binS .add 3 (m1 8) (.int .i64 1)) fun v76 =>
  H1 [v76] (World.drew w13))))
  (R (.bool true) w2)
theorem hb_object_Right : HasBody Try.prog 58 = true := by kernel_rfl
theorem ok_object_Right : codeOK 57 144115188075855871 ((Try.f58.body).getD .skip) (.node .nil (.node (.node .nil (.node (.loop 144115188075855644 [8] (.node .nil (.node .nil (.node (.node (.node .nil (.node .nil (.node (.draw [0, 1, 3, 7, 15, 7, 39, 7, 135, 487, 999, 2023, 4095, 8191, 16383, 32767, 65535, 16383, 147455, 16383, 540671, 1982463, 4079615, 8273919, 16777215, 33554431, 67108863] (.rd 0 (.rd 1 (.rd 2 (.rd 3 (.rd 4 (.rd 5 (.rd 6 (.rd 7 (.rd 8 (.rd 9 (.rd 10 (.rd 11 (.rd 12 (.rd 13 (.rd 14 (.rd 15 (.rd 16 (.rd 17 (.rd 18 (.rd 19 (.rd 20 (.rd 21 (.rd 22 (.rd 23 (.rd 24 (.rd 25 (.rd 26 .done)))))))))))))))))))))))))))) .nil))) .nil) .nil)))) .nil)) .nil)) = true := by kernel_rfl
theorem eq_object_Right {a0 : Value} (w : World) (R : Value → World → Prop) : wpA Try.prog ((Try.f58.body).getD .skip) (.node .nil (.node (.node .nil (.node (.loop 144115188075855644 [8] (.node .nil (.node .nil (.node (.node (.node .nil (.node .nil (.node (.draw [0, 1, 3, 7, 15, 7, 39, 7, 135, 487, 999, 2023, 4095, 8191, 16383, 32767, 65535, 16383, 147455, 16383, 540671, 1982463, 4079615, 8273919, 16777215, 33554431, 67108863] (.rd 0 (.rd 1 (.rd 2 (.rd 3 (.rd 4 (.rd 5 (.rd 6 (.rd 7 (.rd 8 (.rd 9 (.rd 10 (.rd 11 (.rd 12 (.rd 13 (.rd 14 (.rd 15 (.rd 16 (.rd 17 (.rd 18 (.rd 19 (.rd 20 (.rd 21 (.rd 22 (.rd 23 (.rd 24 (.rd 25 (.rd 26 .done)))))))))))))))))))))))))))) .nil))) .nil) .nil)))) .nil)) .nil)) (retE Try.prog Try.f58.results R) (envA [a0]) w = VC_object_Right Try.prog a0 w R := by kernel_rfl
theorem vc_object_Right {a0 : Value} {w : World} {R : Value → World → Prop} (h : VC_object_Right Try.prog a0 w R) : Sp Try.prog 58 [a0] w R :=
  spec_of Try.func58 (c := (Try.f58.body).getD .skip) rfl hb_object_Right mixed _ _ ok_object_Right (by simp [Try.ntmps58]) (by rw [eq_object_Right]; exact h)

/-- function 62: (sautoir/object.Object).upto -/
def VC_object_Object_upto (P : Program) (a0 a1 : Value) (w : World) (R : Value → World → Prop) : Prop :=
  RunV P (boxS 74 a0) w fun v1 w1 =>
  RunV P (boxS 3 a1) w1 fun v2 w2 =>
  PureV P (faddrS 74 v1 0) fun v3 =>
  LoadV P 72 v3 w2 fun v4 =>
  ReadV P (lenS #[72] 3 #[v4]) w2 fun v5 =>
  Sp P 82 [v5, (.func (.func 83) #[] #[v1, v2])] w2 fun v6 w3 =>
  R v6 w3
theorem hb_object_Object_upto : HasBody Try.prog 62 = true := by kernel_rfl
theorem ok_object_Object_upto : codeOK 10 1023 ((Try.f62.body).getD .skip) .nil = true := by kernel_rfl
theorem eq_object_Object_upto {a0 a1 : Value} (w : World) (R : Value → World → Prop) : wpA Try.prog ((Try.f62.body).getD .skip) .nil (retE Try.prog Try.f62.results R) (envA [a0, a1]) w = VC_object_Object_upto Try.prog a0 a1 w R := by kernel_rfl
theorem vc_object_Object_upto {a0 a1 : Value} {w : World} {R : Value → World → Prop} (h : VC_object_Object_upto Try.prog a0 a1 w R) : Sp Try.prog 62 [a0, a1] w R :=
  spec_of Try.func62 (c := (Try.f62.body).getD .skip) rfl hb_object_Object_upto mixed _ _ ok_object_Object_upto (by simp [Try.ntmps62]) (by rw [eq_object_Object_upto]; exact h)

/-- function 63: sautoir/keys.signs -/
def VC_keys_signs (P : Program) (a0 a1 : Value) (w : World) (R : Value → World → Prop) : Prop :=
  ReadV P (lenS #[9] 3 #[a0]) w fun v1 =>
  LoopP [8] [(.int .i64 0)] w fun H1 m1 w1 =>
  PureV P (binS .lss 3 (m1 8) v1) fun v2 =>
  IfP v2
  (PureV P (indexS 9 a0 (m1 8)) fun v3 =>
  Sp P 84 [v3] w1 fun v4 w2 =>
  PureV P (unS .not v4) fun v5 =>
  IfP v5
  (R (.bool false) w2)
  (PureV P (binS .add 3 (m1 8) (.int .i64 1)) fun v6 =>
  H1 [v6] w2))
  (ReadV P (lenS #[9] 3 #[a0]) w1 fun v7 =>
  PureV P (binS .leq 3 v7 a1) fun v8 =>
  R v8 w1)
theorem hb_keys_signs : HasBody Try.prog 63 = true := by kernel_rfl
theorem ok_keys_signs : codeOK 21 2097151 ((Try.f63.body).getD .skip) (.node .nil (.node (.node .nil (.node (.loop 130864 [8] .nil) .nil)) .nil)) = true := by kernel_rfl
theorem eq_keys_signs {a0 a1 : Value} (w : World) (R : Value → World → Prop) : wpA Try.prog ((Try.f63.body).getD .skip) (.node .nil (.node (.node .nil (.node (.loop 130864 [8] .nil) .nil)) .nil)) (retE Try.prog Try.f63.results R) (envA [a0, a1]) w = VC_keys_signs Try.prog a0 a1 w R := by kernel_rfl
theorem vc_keys_signs {a0 a1 : Value} {w : World} {R : Value → World → Prop} (h : VC_keys_signs Try.prog a0 a1 w R) : Sp Try.prog 63 [a0, a1] w R :=
  spec_of Try.func63 (c := (Try.f63.body).getD .skip) rfl hb_keys_signs mixed _ _ ok_keys_signs (by simp [Try.ntmps63]) (by rw [eq_keys_signs]; exact h)

/-- function 64: sautoir/object.value -/
def VC_object_value (P : Program) (a0 a1 : Value) (w : World) (R : Value → World → Prop) : Prop :=
  Sp P 85 [a0] w fun v1 w1 =>
  GuardV v1 true (fun J => J a1 w1) w1 fun v2 w2 =>
  GuardV v1 true (fun J => PureV P (unS .not v2) fun v4 => J v4 w2) w2 fun v3 w3 =>
  GuardV v1 true (fun J => J v3 w3) w3 fun v5 w4 =>
  GuardV v5 false (fun J => J a0 w4) w4 fun v6 w5 =>
  GuardV v5 false (fun J => PureV P (eqS .eql 9 true v6 (.string ⟨#[]⟩)) fun v8 => J v8 w5) w5 fun v7 w6 =>
  GuardV v1 true (fun J => PureV P (pickS v5 (.bool true) v7) fun v10 => J v10 w6) w6 fun v9 w7 =>
  PureV P (pickS v1 v9 (.bool false)) fun v11 =>
  R v11 w7
theorem hb_object_value : HasBody Try.prog 64 = true := by kernel_rfl
theorem ok_object_value : codeOK 15 32767 ((Try.f64.body).getD .skip) .nil = true := by kernel_rfl
theorem eq_object_value {a0 a1 : Value} (w : World) (R : Value → World → Prop) : wpA Try.prog ((Try.f64.body).getD .skip) .nil (retE Try.prog Try.f64.results R) (envA [a0, a1]) w = VC_object_value Try.prog a0 a1 w R := by kernel_rfl
theorem vc_object_value {a0 a1 : Value} {w : World} {R : Value → World → Prop} (h : VC_object_value Try.prog a0 a1 w R) : Sp Try.prog 64 [a0, a1] w R :=
  spec_of Try.func64 (c := (Try.f64.body).getD .skip) rfl hb_object_value mixed _ _ ok_object_value (by simp [Try.ntmps64]) (by rw [eq_object_value]; exact h)

/-- function 65: slices.Clone[[]sautoir/object.Version,sautoir/object.Version] -/
def VC_slices_Clone_object_Version_object_Version (P : Program) (a0 : Value) (w : World) (R : Value → World → Prop) : Prop :=
  PureV P (eqS .eql 72 true a0 (.slice none 0 0)) fun v1 =>
  IfP v1
  (R (.slice none 0 0) w)
  (RunV P (bsliceS 72 0 #[]) w fun v2 w1 =>
  RunV P (appS #[72, 72] 72 #[v2, a0]) w1 fun v3 w2 =>
  R v3 w2)
theorem hb_slices_Clone_object_Version_object_Version : HasBody Try.prog 65 = true := by kernel_rfl
theorem ok_slices_Clone_object_Version_object_Version : codeOK 8 255 ((Try.f65.body).getD .skip) .nil = true := by kernel_rfl
theorem eq_slices_Clone_object_Version_object_Version {a0 : Value} (w : World) (R : Value → World → Prop) : wpA Try.prog ((Try.f65.body).getD .skip) .nil (retE Try.prog Try.f65.results R) (envA [a0]) w = VC_slices_Clone_object_Version_object_Version Try.prog a0 w R := by kernel_rfl
theorem vc_slices_Clone_object_Version_object_Version {a0 : Value} {w : World} {R : Value → World → Prop} (h : VC_slices_Clone_object_Version_object_Version Try.prog a0 w R) : Sp Try.prog 65 [a0] w R :=
  spec_of Try.func65 (c := (Try.f65.body).getD .skip) rfl hb_slices_Clone_object_Version_object_Version mixed _ _ ok_slices_Clone_object_Version_object_Version (by simp [Try.ntmps65]) (by rw [eq_slices_Clone_object_Version_object_Version]; exact h)

/-- function 66: slices.Equal[[]sautoir/object.Version,sautoir/object.Version] -/
def VC_slices_Equal_object_Version_object_Version (P : Program) (a0 a1 : Value) (w : World) (R : Value → World → Prop) : Prop :=
  ReadV P (lenS #[72] 3 #[a0]) w fun v1 =>
  ReadV P (lenS #[72] 3 #[a1]) w fun v2 =>
  PureV P (eqS .neq 3 false v1 v2) fun v3 =>
  IfP v3
  (R (.bool false) w)
  (ReadV P (lenS #[72] 3 #[a0]) w fun v4 =>
  LoopP [13] [(.int .i64 0)] w fun H1 m1 w1 =>
  PureV P (binS .lss 3 (m1 13) v4) fun v5 =>
  IfP v5
  (PureV P (iaddrS 72 a0 (m1 13)) fun v6 =>
  LoadV P 46 v6 (World.drew w1) fun v7 =>
  PureV P (iaddrS 72 a1 (m1 13)) fun v8 =>
  LoadV P 46 v8 (World.drew w1) fun v9 =>
  PureV P (eqS .neq 46 false v7 v9) fun v10 =>
  IfP v10
  (R (.bool false) (World.drew w1))
  (PureV P (binS .add 3 (m1 13) (.int .i64 1)) fun v11 =>
  H1 [v11] (World.drew w1)))
  (R (.bool true) w1))
theorem hb_slices_Equal_object_Version_object_Version : HasBody Try.prog 66 = true := by kernel_rfl
theorem ok_slices_Equal_object_Version_object_Version : codeOK 26 67108863 ((Try.f66.body).getD .skip) (.node .nil (.node .nil (.node (.node .nil (.node (.loop 67100720 [13] (.node .nil (.node .nil (.node (.node (.node .nil (.node (.draw [0, 0, 3, 7, 0, 0, 48, 112, 255] (.rd 0 (.rd 1 (.rd 2 (.rd 3 (.rd 4 (.rd 5 (.rd 6 (.rd 7 (.rd 8 .done)))))))))) .nil)) .nil) .nil)))) .nil)) .nil))) = true := by kernel_rfl
theorem eq_slices_Equal_object_Version_object_Version {a0 a1 : Value} (w : World) (R : Value → World → Prop) : wpA Try.prog ((Try.f66.body).getD .skip) (.node .nil (.node .nil (.node (.node .nil (.node (.loop 67100720 [13] (.node .nil (.node .nil (.node (.node (.node .nil (.node (.draw [0, 0, 3, 7, 0, 0, 48, 112, 255] (.rd 0 (.rd 1 (.rd 2 (.rd 3 (.rd 4 (.rd 5 (.rd 6 (.rd 7 (.rd 8 .done)))))))))) .nil)) .nil) .nil)))) .nil)) .nil))) (retE Try.prog Try.f66.results R) (envA [a0, a1]) w = VC_slices_Equal_object_Version_object_Version Try.prog a0 a1 w R := by kernel_rfl
theorem vc_slices_Equal_object_Version_object_Version {a0 a1 : Value} {w : World} {R : Value → World → Prop} (h : VC_slices_Equal_object_Version_object_Version Try.prog a0 a1 w R) : Sp Try.prog 66 [a0, a1] w R :=
  spec_of Try.func66 (c := (Try.f66.body).getD .skip) rfl hb_slices_Equal_object_Version_object_Version mixed _ _ ok_slices_Equal_object_Version_object_Version (by simp [Try.ntmps66]) (by rw [eq_slices_Equal_object_Version_object_Version]; exact h)

/-- function 77: sautoir/sautoirref08.signs -/
def VC_sautoirref08_signs (P : Program) (a0 : Value) (w : World) (R : Value → World → Prop) : Prop :=
  LoopP [3] [(.int .i64 0)] w fun H1 m1 w1 =>
  ReadV P (lenS #[9] 3 #[a0]) w1 fun v1 =>
  PureV P (binS .lss 3 (m1 3) v1) fun v2 =>
  IfP v2
  (PureV P (indexS 9 a0 (m1 3)) fun v3 =>
  PureV P (convS 5 3 v3) fun v4 =>
  PureV P (binS .geq 3 v4 (.int .i64 97)) fun v5 =>
  GuardV v5 true (fun J => J v4 w1) w1 fun v6 w2 =>
  GuardV v5 true (fun J => PureV P (binS .leq 3 v6 (.int .i64 122)) fun v8 => J v8 w2) w2 fun v7 w3 =>
  PureV P (pickS v5 v7 (.bool false)) fun v9 =>
  GuardV v9 false (fun J => J v4 w3) w3 fun v10 w4 =>
  GuardV v9 false (fun J => PureV P (binS .geq 3 v10 (.int .i64 48)) fun v12 => J v12 w4) w4 fun v11 w5 =>
  GuardV v9 false (fun J => J v11 w5) w5 fun v13 w6 =>
  GuardV v13 true (fun J => J v4 w6) w6 fun v14 w7 =>
  GuardV v13 true (fun J => PureV P (binS .leq 3 v14 (.int .i64 57)) fun v16 => J v16 w7) w7 fun v15 w8 =>
  GuardV v9 false (fun J => PureV P (pickS v13 v15 (.bool false)) fun v18 => J v18 w8) w8 fun v17 w9 =>
  PureV P (pickS v9 (.bool true) v17) fun v19 =>
  GuardV v19 false (fun J => J v4 w9) w9 fun v20 w10 =>
  GuardV v19 false (fun J => PureV P (eqS .eql 3 true v20 (.int .i64 95)) fun v22 => J v22 w10) w10 fun v21 w11 =>
  PureV P (pickS v19 (.bool true) v21) fun v23 =>
  PureV P (unS .not v23) fun v24 =>
  IfP v24
  (R (.bool false) w11)
  (PureV P (binS .add 3 (m1 3) (.int .i64 1)) fun v25 =>
  H1 [v25] w11))
  (R (.bool true) w1)
theorem hb_sautoirref08_signs : HasBody Try.prog 77 = true := by kernel_rfl
theorem ok_sautoirref08_signs : codeOK 34 17179869183 ((Try.f77.body).getD .skip) (.node .nil (.node (.node .nil (.node (.loop 17179869180 [3] .nil) .nil)) .nil)) = true := by kernel_rfl
theorem eq_sautoirref08_signs {a0 : Value} (w : World) (R : Value → World → Prop) : wpA Try.prog ((Try.f77.body).getD .skip) (.node .nil (.node (.node .nil (.node (.loop 17179869180 [3] .nil) .nil)) .nil)) (retE Try.prog Try.f77.results R) (envA [a0]) w = VC_sautoirref08_signs Try.prog a0 w R := by kernel_rfl
theorem vc_sautoirref08_signs {a0 : Value} {w : World} {R : Value → World → Prop} (h : VC_sautoirref08_signs Try.prog a0 w R) : Sp Try.prog 77 [a0] w R :=
  spec_of Try.func77 (c := (Try.f77.body).getD .skip) rfl hb_sautoirref08_signs mixed _ _ ok_sautoirref08_signs (by simp [Try.ntmps77]) (by rw [eq_sautoirref08_signs]; exact h)

/-- function 78: sautoir/sautoirref08.RightVal -/
def VC_sautoirref08_RightVal (P : Program) (a0 : Value) (w : World) (R : Value → World → Prop) : Prop :=
  ReadV P (lenS #[9] 3 #[a0]) w fun v1 =>
  PureV P (binS .leq 3 v1 (.int .i64 64)) fun v2 =>
  GuardV v2 true (fun J => J a0 w) w fun v3 w1 =>
  GuardV v2 true (fun J => Sp P 77 [v3] w1 J) w1 fun v4 w2 =>
  PureV P (pickS v2 v4 (.bool false)) fun v5 =>
  R v5 w2
theorem hb_sautoirref08_RightVal : HasBody Try.prog 78 = true := by kernel_rfl
theorem ok_sautoirref08_RightVal : codeOK 10 1023 ((Try.f78.body).getD .skip) .nil = true := by kernel_rfl
theorem eq_sautoirref08_RightVal {a0 : Value} (w : World) (R : Value → World → Prop) : wpA Try.prog ((Try.f78.body).getD .skip) .nil (retE Try.prog Try.f78.results R) (envA [a0]) w = VC_sautoirref08_RightVal Try.prog a0 w R := by kernel_rfl
theorem vc_sautoirref08_RightVal {a0 : Value} {w : World} {R : Value → World → Prop} (h : VC_sautoirref08_RightVal Try.prog a0 w R) : Sp Try.prog 78 [a0] w R :=
  spec_of Try.func78 (c := (Try.f78.body).getD .skip) rfl hb_sautoirref08_RightVal mixed _ _ ok_sautoirref08_RightVal (by simp [Try.ntmps78]) (by rw [eq_sautoirref08_RightVal]; exact h)

/-- function 82: sort.Search -/
def VC_sort_Search (P : Program) (a0 a1 : Value) (w : World) (R : Value → World → Prop) : Prop :=
  LoopP [5, 6] [(.int .i64 0), a0] w fun H1 m1 w1 =>
  PureV P (binS .lss 3 (m1 5) (m1 6)) fun v1 =>
  IfP v1
  (PureV P (binS .add 3 (m1 5) (m1 6)) fun v2 =>
  PureV P (convS 3 148 v2) fun v3 =>
  PureV P (binS .shr 148 v3 (.int .u64 1)) fun v4 =>
  PureV P (convS 148 3 v4) fun v5 =>
  CallV P a1 [v5] w1 fun v6 w2 =>
  PureV P (unS .not v6) fun v7 =>
  IfP v7
  (PureV P (binS .add 3 v5 (.int .i64 1)) fun v8 =>
  H1 [v8, (m1 6)] w2)
  (H1 [(m1 5), v5] w2))
  (R (m1 5) w1)
theorem hb_sort_Search : HasBody Try.prog 82 = true := by kernel_rfl
theorem ok_sort_Search : codeOK 26 67108863 ((Try.f82.body).getD .skip) (.node .nil (.node .nil (.node (.node (.loop 33554144 [5, 6] .nil) .nil) .nil))) = true := by kernel_rfl
theorem eq_sort_Search {a0 a1 : Value} (w : World) (R : Value → World → Prop) : wpA Try.prog ((Try.f82.body).getD .skip) (.node .nil (.node .nil (.node (.node (.loop 33554144 [5, 6] .nil) .nil) .nil))) (retE Try.prog Try.f82.results R) (envA [a0, a1]) w = VC_sort_Search Try.prog a0 a1 w R := by kernel_rfl
theorem vc_sort_Search {a0 a1 : Value} {w : World} {R : Value → World → Prop} (h : VC_sort_Search Try.prog a0 a1 w R) : Sp Try.prog 82 [a0, a1] w R :=
  spec_of Try.func82 (c := (Try.f82.body).getD .skip) rfl hb_sort_Search mixed _ _ ok_sort_Search (by simp [Try.ntmps82]) (by rw [eq_sort_Search]; exact h)

/-- function 83: (sautoir/object.Object).upto$1 -/
def VC_object_Object_upto_1 (P : Program) (a0 a1 a2 : Value) (w : World) (R : Value → World → Prop) : Prop :=
  PureV P (faddrS 74 a1 0) fun v1 =>
  LoadV P 72 v1 (World.drew w) fun v2 =>
  PureV P (iaddrS 72 v2 a0) fun v3 =>
  PureV P (faddrS 46 v3 0) fun v4 =>
  LoadV P 3 v4 (World.drew w) fun v5 =>
  LoadV P 3 a2 (World.drew w) fun v6 =>
  PureV P (binS .gtr 3 v5 v6) fun v7 =>
  R v7 (World.drew w)
theorem hb_object_Object_upto_1 : HasBody Try.prog 83 = true := by kernel_rfl
theorem ok_object_Object_upto_1 : codeOK 13 8191 ((Try.f83.body).getD .skip) (.node .nil (.node (.draw [0, 1, 0, 7, 15, 31, 0, 127, 255] (.rd 0 (.rd 1 (.rd 2 (.rd 3 (.rd 4 (.rd 5 (.rd 6 (.rd 7 (.rd 8 .done)))))))))) .nil)) = true := by kernel_rfl
theorem eq_object_Object_upto_1 {a0 a1 a2 : Value} (w : World) (R : Value → World → Prop) : wpA Try.prog ((Try.f83.body).getD .skip) (.node .nil (.node (.draw [0, 1, 0, 7, 15, 31, 0, 127, 255] (.rd 0 (.rd 1 (.rd 2 (.rd 3 (.rd 4 (.rd 5 (.rd 6 (.rd 7 (.rd 8 .done)))))))))) .nil)) (retE Try.prog Try.f83.results R) (envA [a0, a1, a2]) w = VC_object_Object_upto_1 Try.prog a0 a1 a2 w R := by kernel_rfl
theorem vc_object_Object_upto_1 {a0 a1 a2 : Value} {w : World} {R : Value → World → Prop} (h : VC_object_Object_upto_1 Try.prog a0 a1 a2 w R) : Sp Try.prog 83 [a0, a1, a2] w R :=
  spec_of Try.func83 (c := (Try.f83.body).getD .skip) rfl hb_object_Object_upto_1 mixed _ _ ok_object_Object_upto_1 (by simp [Try.ntmps83]) (by rw [eq_object_Object_upto_1]; exact h)

/-- function 84: sautoir/keys.sign -/
def VC_keys_sign (P : Program) (a0 : Value) (w : World) (R : Value → World → Prop) : Prop :=
  Join (fun J1 : Value → World → Prop =>
  PureV P (binS .geq 5 a0 (.int .u8 97)) fun v1 =>
  GuardV v1 true (fun J => J a0 w) w fun v2 w1 =>
  GuardV v1 true (fun J => PureV P (binS .leq 5 v2 (.int .u8 122)) fun v4 => J v4 w1) w1 fun v3 w2 =>
  PureV P (pickS v1 v3 (.bool false)) fun v5 =>
  IfP v5
  (J1 v5 w2)
  (PureV P (binS .geq 5 a0 (.int .u8 48)) fun v6 =>
  GuardV v6 true (fun J => J a0 w2) w2 fun v7 w3 =>
  GuardV v6 true (fun J => PureV P (binS .leq 5 v7 (.int .u8 57)) fun v9 => J v9 w3) w3 fun v8 w4 =>
  PureV P (pickS v6 v8 (.bool false)) fun v10 =>
  IfP v10
  (J1 v10 w4)
  (PureV P (eqS .eql 5 true a0 (.int .u8 95)) fun v11 =>
  J1 v11 w4)))
  (fun v12 w5 =>
  IfP v12
  (R (.bool true) w5)
  (R (.bool false) w5))
theorem hb_keys_sign : HasBody Try.prog 84 = true := by kernel_rfl
theorem ok_keys_sign : codeOK 18 262143 ((Try.f84.body).getD .skip) .nil = true := by kernel_rfl
theorem eq_keys_sign {a0 : Value} (w : World) (R : Value → World → Prop) : wpA Try.prog ((Try.f84.body).getD .skip) .nil (retE Try.prog Try.f84.results R) (envA [a0]) w = VC_keys_sign Try.prog a0 w R := by kernel_rfl
theorem vc_keys_sign {a0 : Value} {w : World} {R : Value → World → Prop} (h : VC_keys_sign Try.prog a0 w R) : Sp Try.prog 84 [a0] w R :=
  spec_of Try.func84 (c := (Try.f84.body).getD .skip) rfl hb_keys_sign mixed _ _ ok_keys_sign (by simp [Try.ntmps84]) (by rw [eq_keys_sign]; exact h)

/-- function 85: sautoir/keys.RightVal -/
def VC_keys_RightVal (P : Program) (a0 : Value) (w : World) (R : Value → World → Prop) : Prop :=
  Sp P 63 [a0, (.int .i64 64)] w fun v1 w1 =>
  R v1 w1
theorem hb_keys_RightVal : HasBody Try.prog 85 = true := by kernel_rfl
theorem ok_keys_RightVal : codeOK 5 31 ((Try.f85.body).getD .skip) .nil = true := by kernel_rfl
theorem eq_keys_RightVal {a0 : Value} (w : World) (R : Value → World → Prop) : wpA Try.prog ((Try.f85.body).getD .skip) .nil (retE Try.prog Try.f85.results R) (envA [a0]) w = VC_keys_RightVal Try.prog a0 w R := by kernel_rfl
theorem vc_keys_RightVal {a0 : Value} {w : World} {R : Value → World → Prop} (h : VC_keys_RightVal Try.prog a0 w R) : Sp Try.prog 85 [a0] w R :=
  spec_of Try.func85 (c := (Try.f85.body).getD .skip) rfl hb_keys_RightVal mixed _ _ ok_keys_RightVal (by simp [Try.ntmps85]) (by rw [eq_keys_RightVal]; exact h)

end Go.Proofs.Ytbjakblkppnieaa
