/- Functions of the program, compiled, by a program (gen.py). -/
import Derived.Test.YtibchilpaaiecaaGreatDoorF1
import Derived.Test.YtibchilpaaiecaaGreatDoorF2
set_option maxRecDepth 100000
namespace Go.Proofs.YtibchilpaaiecaaGreatDoor.F
open Go.Proofs.YtibchilpaaiecaaGreatDoor.M Go.Proofs Go.RowKit
def tblL : List (Nat × Def) := [(5, .code ax),
 (6, .code eQ),
 (7, .code eR),
 (8, .code eH),
 (9, .code fb),
 (10, .code dN),
 (12, .code dG),
 (13, .code dr),
 (14, .code bJ),
 (15, .code aQ),
 (16, .code cL),
 (17, .code bm),
 (18, .code eB),
 (19, .code cn),
 (20, .code ak),
 (21, .code gj),
 (22, .code gX),
 (23, .code gY),
 (24, .code bT),
 (25, .code bU),
 (26, .code iM),
 (27, .code iN),
 (28, .code aX),
 (29, .prim cU),
 (30, .code cC),
 (31, .code cD),
 (33, .code fc),
 (34, .code de),
 (36, .code iE),
 (37, .code iF),
 (38, .code al),
 (39, .code iG),
 (40, .code eV),
 (41, .code cM),
 (42, .prim splP),
 (43, .code aY),
 (44, .code jt),
 (45, .code ay),
 (46, .code bt),
 (47, .code iH),
 (48, .code aH),
 (49, .code gZ),
 (50, .code eo),
 (51, .code bV),
 (52, .code aF),
 (53, .code bD),
 (54, .code bL),
 (55, .code ep),
 (56, .code hF),
 (57, .prim (Ak 151)),
 (58, .code eI),
 (59, .code gq),
 (60, .code bM),
 (61, .code fp),
 (62, .code cE),
 (63, .code bW),
 (65, .code eJ),
 (66, .code gr),
 (67, .prim Aj),
 (68, .code gu),
 (69, .code eW),
 (73, .code dm),
 (74, .code cG),
 (75, .code dQ),
 (76, .code cu),
 (77, .prim ek),
 (78, .prim bH),
 (79, .prim cK),
 (80, .prim dC),
 (81, .code aj),
 (82, .code gB),
 (83, .code hP),
 (84, .code iI),
 (86, .code iJ),
 (87, .code fz),
 (88, .code fB),
 (89, .code aq),
 (90, .code aS),
 (91, .code bd),
 (92, .code dR),
 (93, .code er),
 (94, .code bh),
 (97, .code kU),
 (98, .code dz),
 (99, .code bA),
 (105, .prim qV),
 (109, .code bC),
 (110, .code fZ),
 (111, .code fC),
 (112, .code dH),
 (116, .code dI),
 (117, .prim ixbP),
 (118, .split),
 (120, .prim po),
 (126, .code dt),
 (127, .code dA),
 (128, .code aG),
 (129, .code hU),
 (130, .code bf),
 (131, .code aA),
 (139, .code bj),
 (140, .code dn),
 (151, .code bN),
 (152, .code fq),
 (153, .code ba),
 (154, .code cN),
 (155, .code aJ),
 (156, .code bq),
 (157, .code iu),
 (166, .code eu),
 (167, .code fE),
 (168, .code aw),
 (176, .code fW),
 (177, .code fX)]
noncomputable def T : Tbl := fun f => tblL.lookup f
def nG (P : Program) : List (Nat × Def) → Prop
 | [] => True
 | p :: r => cW P p.1 p.2 ∧ nG P r
theorem uo {P : Program} : ∀ {l : List (Nat × Def)}, nG P l → ∀ f d, l.lookup f = some d → cW P f d
 | [], _, f, d, h => by simp at h
 | (g, e) :: l, ha, f, d, h => by
  rw [List.lookup_cons] at h
  by_cases hf : f = g
  ·subst hf; simp at h; subst h; exact ha.1
  ·have : (f == g) = false := by simpa using hf
   rw [this] at h; exact uo ha.2 f d h
theorem okT : ∀ f d, T f = some d → cW Tryz.prog f d := uo (l := tblL) ⟨gU, ke, kf, qd, lk, qe, sc, pw, ud, ki, pz, kj, sd, l3, ln, se, qf, qg, lq, lr, pA, pB, qh, pC, kn, ko, lu, l4, sf, sg, dV, si, pD, mP, n6, gG, ug, qk, ju, sj, gH, ql, l5, lA, jX, lB, l6, l7, qm, pE, qn, sk, ky, sn, kz, lC, qq, sq, pH, ss, pI, l8, kB, lF, l9, jx, fe, gI, iO, eC, su, qt, sx, sy, qu, qv, ff, kE, lI, lJ, ma, iq, vQ, kI, jy, uh, gE, pK, qw, sB, sC, lK, kJ, gJ, pM, kK, fu, qx, fH, fU, ir, qy, kL, sD, iP, mQ, fD, fV, n9, mb, oa, eT, mR, mS, trivial⟩
theorem T_5 : T 5 = some (.code ax) := rfl
theorem T_6 : T 6 = some (.code eQ) := rfl
theorem T_7 : T 7 = some (.code eR) := rfl
theorem T_8 : T 8 = some (.code eH) := rfl
theorem T_9 : T 9 = some (.code fb) := rfl
theorem T_10 : T 10 = some (.code dN) := rfl
theorem T_12 : T 12 = some (.code dG) := rfl
theorem T_13 : T 13 = some (.code dr) := rfl
theorem T_14 : T 14 = some (.code bJ) := rfl
theorem T_15 : T 15 = some (.code aQ) := rfl
theorem T_16 : T 16 = some (.code cL) := rfl
theorem T_17 : T 17 = some (.code bm) := rfl
theorem T_18 : T 18 = some (.code eB) := rfl
theorem T_19 : T 19 = some (.code cn) := rfl
theorem T_20 : T 20 = some (.code ak) := rfl
theorem T_21 : T 21 = some (.code gj) := rfl
theorem T_22 : T 22 = some (.code gX) := rfl
theorem T_23 : T 23 = some (.code gY) := rfl
theorem T_24 : T 24 = some (.code bT) := rfl
theorem T_25 : T 25 = some (.code bU) := rfl
theorem T_26 : T 26 = some (.code iM) := rfl
theorem T_27 : T 27 = some (.code iN) := rfl
theorem T_28 : T 28 = some (.code aX) := rfl
theorem T_29 : T 29 = some (.prim cU) := rfl
theorem T_30 : T 30 = some (.code cC) := rfl
theorem T_31 : T 31 = some (.code cD) := rfl
theorem T_33 : T 33 = some (.code fc) := rfl
theorem T_34 : T 34 = some (.code de) := rfl
theorem T_36 : T 36 = some (.code iE) := rfl
theorem T_37 : T 37 = some (.code iF) := rfl
theorem T_38 : T 38 = some (.code al) := rfl
theorem T_39 : T 39 = some (.code iG) := rfl
theorem T_40 : T 40 = some (.code eV) := rfl
theorem T_41 : T 41 = some (.code cM) := rfl
theorem T_42 : T 42 = some (.prim splP) := rfl
theorem T_43 : T 43 = some (.code aY) := rfl
theorem T_44 : T 44 = some (.code jt) := rfl
theorem T_45 : T 45 = some (.code ay) := rfl
theorem T_46 : T 46 = some (.code bt) := rfl
theorem T_47 : T 47 = some (.code iH) := rfl
theorem T_48 : T 48 = some (.code aH) := rfl
theorem T_49 : T 49 = some (.code gZ) := rfl
theorem T_50 : T 50 = some (.code eo) := rfl
theorem T_51 : T 51 = some (.code bV) := rfl
theorem T_52 : T 52 = some (.code aF) := rfl
theorem T_53 : T 53 = some (.code bD) := rfl
theorem T_54 : T 54 = some (.code bL) := rfl
theorem T_55 : T 55 = some (.code ep) := rfl
theorem T_56 : T 56 = some (.code hF) := rfl
theorem T_57 : T 57 = some (.prim (Ak 151)) := rfl
theorem T_58 : T 58 = some (.code eI) := rfl
theorem T_59 : T 59 = some (.code gq) := rfl
theorem T_60 : T 60 = some (.code bM) := rfl
theorem T_61 : T 61 = some (.code fp) := rfl
theorem T_62 : T 62 = some (.code cE) := rfl
theorem T_63 : T 63 = some (.code bW) := rfl
theorem T_65 : T 65 = some (.code eJ) := rfl
theorem T_66 : T 66 = some (.code gr) := rfl
theorem T_67 : T 67 = some (.prim Aj) := rfl
theorem T_68 : T 68 = some (.code gu) := rfl
theorem T_69 : T 69 = some (.code eW) := rfl
theorem T_73 : T 73 = some (.code dm) := rfl
theorem T_74 : T 74 = some (.code cG) := rfl
theorem T_75 : T 75 = some (.code dQ) := rfl
theorem T_76 : T 76 = some (.code cu) := rfl
theorem T_77 : T 77 = some (.prim ek) := rfl
theorem T_78 : T 78 = some (.prim bH) := rfl
theorem T_79 : T 79 = some (.prim cK) := rfl
theorem T_80 : T 80 = some (.prim dC) := rfl
theorem T_81 : T 81 = some (.code aj) := rfl
theorem T_82 : T 82 = some (.code gB) := rfl
theorem T_83 : T 83 = some (.code hP) := rfl
theorem T_84 : T 84 = some (.code iI) := rfl
theorem T_86 : T 86 = some (.code iJ) := rfl
theorem T_87 : T 87 = some (.code fz) := rfl
theorem T_88 : T 88 = some (.code fB) := rfl
theorem T_89 : T 89 = some (.code aq) := rfl
theorem T_90 : T 90 = some (.code aS) := rfl
theorem T_91 : T 91 = some (.code bd) := rfl
theorem T_92 : T 92 = some (.code dR) := rfl
theorem T_93 : T 93 = some (.code er) := rfl
theorem T_94 : T 94 = some (.code bh) := rfl
theorem T_97 : T 97 = some (.code kU) := rfl
theorem T_98 : T 98 = some (.code dz) := rfl
theorem T_99 : T 99 = some (.code bA) := rfl
theorem K0 : T 105 = some (.prim qV) := rfl
theorem K1 : T 109 = some (.code bC) := rfl
theorem K2 : T 110 = some (.code fZ) := rfl
theorem K3 : T 111 = some (.code fC) := rfl
theorem K4 : T 112 = some (.code dH) := rfl
theorem K5 : T 116 = some (.code dI) := rfl
theorem K6 : T 117 = some (.prim ixbP) := rfl
theorem K7 : T 118 = some (.split) := rfl
theorem K8 : T 120 = some (.prim po) := rfl
theorem K9 : T 126 = some (.code dt) := rfl
theorem La : T 127 = some (.code dA) := rfl
theorem Lb : T 128 = some (.code aG) := rfl
theorem Lc : T 129 = some (.code hU) := rfl
theorem Ld : T 130 = some (.code bf) := rfl
theorem Lf : T 131 = some (.code aA) := rfl
theorem Lg : T 139 = some (.code bj) := rfl
theorem Lh : T 140 = some (.code dn) := rfl
theorem Li : T 151 = some (.code bN) := rfl
theorem Lj : T 152 = some (.code fq) := rfl
theorem Lk : T 153 = some (.code ba) := rfl
theorem Ll : T 154 = some (.code cN) := rfl
theorem Lm : T 155 = some (.code aJ) := rfl
theorem Ln : T 156 = some (.code bq) := rfl
theorem LY : T 157 = some (.code iu) := rfl
theorem Lo : T 166 = some (.code eu) := rfl
theorem Lp : T 167 = some (.code fE) := rfl
theorem Lq : T 168 = some (.code aw) := rfl
theorem LZ : T 176 = some (.code fW) := rfl
theorem L0 : T 177 = some (.code fX) := rfl
end Go.Proofs.YtibchilpaaiecaaGreatDoor.F
