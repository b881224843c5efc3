/- Categories' names: numbers, parts, and how names are read. -/
import Derived.Test.YtibchilpaaiecaaGreatDoorL20
set_option linter.all false
set_option maxRecDepth 100000
namespace Go.Proofs.YtibchilpaaiecaaGreatDoor.L
open Go.Proofs.YtibchilpaaiecaaGreatDoor.M Go.Proofs.YtibchilpaaiecaaGreatDoor.F Go.Proofs
theorem toList_mk (l : List UInt8) : ByteArray.toList ⟨l.toArray⟩ = l := by rw [Go.ByteArray.toList_eq]
theorem sE (l : List UInt8) (a b : Nat) : ByteArray.extract ⟨l.toArray⟩ a b = ⟨((l.take b).drop a).toArray⟩ := by
 apply ByteArray.ext
 simp [ByteArray.data_extract, List.drop_take]
theorem size_mk (l : List UInt8) : ByteArray.size ⟨l.toArray⟩ = l.length := by simp [ByteArray.size]
attribute [go_sem] toList_mk sE size_mk
theorem jz {s : List UInt8} {h : AH} (hs : s.length ≤ 281474976710656) : run T 57 [.str ⟨s.toArray⟩] h = some (n4 151 s, h) := by
 rw [eG T_57]
 show (if Nat.ble (ByteArray.size ⟨s.toArray⟩) 281474976710656 = true then _ else _) = _
 rw [if_pos (by rw [size_mk]; exact Nat.ble_eq_true_of_le hs)]
theorem ox {n : Int} {h : AH} (h0 : -9223372036854775808 ≤ n) (h1 : n ≤ 9223372036854775807) : run T 67 [.int .i64 n] h = some (.str ⟨(Lib.itoa n).toArray⟩, h) := by
 rw [eG T_67]
 show (if _ then _ else _) = _
 rw [if_pos ⟨h0, h1⟩]
theorem Be {s : List UInt8} {c : UInt8} {h : AH} : run T 120 [.str ⟨s.toArray⟩, .str ⟨#[c]⟩] h = some (.int .i64 (Lib.indexByte s c), h) := by
 rw [eG K8]; rfl
def numC (s : List UInt8) (m : Int) : Int × Bool :=
 match Lib.atoiAll s with
 | .ok v => (v, decide (0 ≤ v ∧ v ≤ m ∧ Lib.itoa v = s))
 | .range => (Lib.atoiSat s, false)
 | _ => (0, false)
theorem oy {s : List UInt8} {m : Int} {h : AH} (hs : s.length ≤ 281474976710656) (hm : m ≤ 9223372036854775807) :
  run T 140 [.str ⟨s.toArray⟩, .int .i64 m] h = some (.tup [.int .i64 (numC s m).1, .bool (numC s m).2], h) := by
 have h1 := jz (h := h) hs
 rw [af Lh]
 unfold n4 at h1
 unfold numC
 cases ha : Lib.atoiAll s with
 | range => rw [ha] at h1; simp -implicitDefEqProofs (disch := (refine ab ?_; first | assumption | omega | (simp [go_sem] <;> omega) | with_unfolding_all rfl | decide)) only [go_sem, Nat.reduceAdd, Nat.reduceSub, reduceIte, reduceCtorEq, dn, h1]
 | ok v =>
  rw [ha] at h1
  simp only at h1 ⊢
  by_cases d1 : 0 ≤ v
  ·have e1 : decide (v ≥ 0) = true := decide_eq_true d1
   by_cases d2 : v ≤ m
   ·have e2 : decide (v ≤ m) = true := decide_eq_true d2
    have h2 := ox (n := v) (h := []) (by omega) (by omega)
    have e3 : decide (0 ≤ v ∧ v ≤ m ∧ Lib.itoa v = s) = (Lib.itoa v == s) := by
     rw [Bool.eq_iff_iff]; simp [d1, d2]
    rw [e3]
    simp -implicitDefEqProofs (disch := (refine ab ?_; first | assumption | omega | (simp [go_sem] <;> omega) | with_unfolding_all rfl | decide)) only [go_sem, Nat.reduceAdd, Nat.reduceSub, reduceIte, reduceCtorEq, dn, h1, e1, e2, h2]
   ·have e2 : decide (v ≤ m) = false := decide_eq_false d2
    have e3 : decide (0 ≤ v ∧ v ≤ m ∧ Lib.itoa v = s) = false := decide_eq_false (fun x => d2 x.2.1)
    rw [e3]
    simp -implicitDefEqProofs (disch := (refine ab ?_; first | assumption | omega | (simp [go_sem] <;> omega) | with_unfolding_all rfl | decide)) only [go_sem, Nat.reduceAdd, Nat.reduceSub, reduceIte, reduceCtorEq, dn, h1, e1, e2]
  ·have e1 : decide (v ≥ 0) = false := decide_eq_false d1
   have e3 : decide (0 ≤ v ∧ v ≤ m ∧ Lib.itoa v = s) = false := decide_eq_false (fun x => d1 x.1)
   rw [e3]
   simp -implicitDefEqProofs (disch := (refine ab ?_; first | assumption | omega | (simp [go_sem] <;> omega) | with_unfolding_all rfl | decide)) only [go_sem, Nat.reduceAdd, Nat.reduceSub, reduceIte, reduceCtorEq, dn, h1, e1]
 | _ => rw [ha] at h1; simp -implicitDefEqProofs (disch := (refine ab ?_; first | assumption | omega | (simp [go_sem] <;> omega) | with_unfolding_all rfl | decide)) only [go_sem, Nat.reduceAdd, Nat.reduceSub, reduceIte, reduceCtorEq, dn, h1]
def cutC (c : UInt8) (s : List UInt8) : List UInt8 × List UInt8 × Bool :=
 if 0 ≤ Lib.indexByte s c then (s.take (Lib.indexByte s c).toNat, s.drop ((Lib.indexByte s c).toNat + 1), true) else (s, [], false)
theorem sF : ∀ (s : List UInt8) (c : UInt8), Lib.indexByte s c < s.length
 | [], c => by simp [Lib.indexByte]
 | b :: s, c => by
  have := sF s c
  unfold Lib.indexByte
  split
  ·simp
  ·split
   ·simp
    omega
   ·simp; omega
theorem J5 {s : List UInt8} {i : Int} (h0 : 0 ≤ i) (h1 : i ≤ s.length) : cV none (.str ⟨s.toArray⟩) (some none) (some (some i)) (some none) = some (.str ⟨(s.take i.toNat).toArray⟩) := by
 rw [rZ (by decide) (by simpa using h0) (by rw [size_mk]; simpa using h1), sE]; rfl
theorem Bf {s : List UInt8} {i : Int} (h0 : 0 ≤ i) (h1 : i ≤ s.length) : cV none (.str ⟨s.toArray⟩) (some (some i)) (some none) (some none) = some (.str ⟨(s.drop i.toNat).toArray⟩) := by
 rw [rZ (by simpa using h0) (by rw [size_mk]; simpa using h1) (by simp), sE, size_mk]
 simp
theorem Dx {s : List UInt8} {c : UInt8} {h : AH} (hs : s.length ≤ 9223372036854775806) :
  run T 94 [.str ⟨s.toArray⟩, .str ⟨#[c]⟩] h = some (.tup [.str ⟨(cutC c s).1.toArray⟩, .str ⟨(cutC c s).2.1.toArray⟩, .bool (cutC c s).2.2], h) := by
 have h1 := Be (s := s) (c := c) (h := [])
 have hlt := sF s c
 have hge := Lib.indexByte_ge s c
 rw [af T_94]
 unfold cutC
 generalize Lib.indexByte s c = i at *
 by_cases h0 : 0 ≤ i
 ·have e1 : decide (i ≥ 0) = true := decide_eq_true h0
  have e2 : IntKind.i64.wrap (i + ((#[c].size : Nat) : Int)) = i + 1 := by
   rw [show #[c].size = 1 from rfl, w64 (by omega) (by omega)]; rfl
  have e3 : (i + 1).toNat = i.toNat + 1 := by omega
  rw [if_pos h0]
  have e4 := J5 (s := s) (i := i) h0 (by omega)
  have e5 := Bf (s := s) (i := i + 1) (by omega) (by omega)
  rw [e3] at e5
  simp -implicitDefEqProofs (disch := (refine ab ?_; first | assumption | omega | (simp [go_sem] <;> omega) | with_unfolding_all rfl | decide)) only [go_sem, Nat.reduceAdd, Nat.reduceSub, reduceIte, reduceCtorEq, bh, h1, e1, e2, e4, e5]
 ·have e1 : decide (i ≥ 0) = false := decide_eq_false h0
  rw [if_neg h0]
  simp -implicitDefEqProofs (disch := (refine ab ?_; first | assumption | omega | (simp [go_sem] <;> omega) | with_unfolding_all rfl | decide)) only [go_sem, Nat.reduceAdd, Nat.reduceSub, reduceIte, reduceCtorEq, bh, h1, e1]
theorem vR {s : List UInt8} {c : UInt8} {h : AH} (hs : s.length ≤ 9223372036854775806) :
  run T 56 [.str ⟨s.toArray⟩, .str ⟨#[c]⟩] h = some (.tup [.str ⟨(cutC c s).1.toArray⟩, .str ⟨(cutC c s).2.1.toArray⟩, .bool (cutC c s).2.2], h) := by
 have h1 := Dx (c := c) (h := []) hs
 rw [af T_56]
 simp -implicitDefEqProofs (disch := (refine ab ?_; first | assumption | omega | (simp [go_sem] <;> omega) | with_unfolding_all rfl | decide)) only [go_sem, Nat.reduceAdd, Nat.reduceSub, reduceIte, reduceCtorEq, hF, h1]
theorem yP {s d : ByteArray} {h : AH} : run T 93 [.str s, .str d, .int .i64 0] h = some (.fn (.func 118) [] [.box (h.length + 1) 0, .box h.length 0, .box (h.length + 2) 0], h ++ [.cells [.str s], .cells [.str d], .cells [.int .i64 0]]) := by
 rw [af T_93]
 have hl1 : (h ++ [Bx.cells [.str s]]).length = h.length + 1 := by simp
 have hl2 : (h ++ [Bx.cells [.str s], Bx.cells [.str d]]).length = h.length + 2 := by simp
 simp -implicitDefEqProofs (disch := (refine ab ?_; first | assumption | omega | (simp [go_sem] <;> omega) | with_unfolding_all rfl | decide)) only [go_sem, Nat.reduceAdd, Nat.reduceSub, reduceIte, reduceCtorEq, er, hl1, hl2, List.append_assoc, List.cons_append, List.nil_append]
 rw [zY (by simp only [AV.mr, mrL]; omega)]
theorem pN {s d : ByteArray} {h : AH} : run T 55 [.str s, .str d] h = some (.fn (.func 118) [] [.box (h.length + 1) 0, .box h.length 0, .box (h.length + 2) 0], h ++ [.cells [.str s], .cells [.str d], .cells [.int .i64 0]]) := by
 have h1 := yP (s := s) (d := d) (h := h)
 rw [af T_55]
 simp -implicitDefEqProofs (disch := (refine ab ?_; first | assumption | omega | (simp [go_sem] <;> omega) | with_unfolding_all rfl | decide)) only [go_sem, Nat.reduceAdd, Nat.reduceSub, reduceIte, reduceCtorEq, ep, h1]
 rw [zY (by simp only [AV.mr, mrL]; omega)]
theorem mN : rV T 118 = true := by unfold rV; rw [K7]
theorem Bg {h : AH} {pp ps pv : Nat} {c : UInt8} {s : List UInt8} (h1 : h[pp]? = some (.cells [.str ⟨#[c]⟩])) (h2 : h[ps]? = some (.cells [.str ⟨s.toArray⟩])) (h3 : h[pv]? = some (.cells [.int .i64 0])) (n1 : ps ≠ pp) (n2 : ps ≠ pv) (hl : s.length ≤ 4611686018427387904) :
  spl h pp ps pv = some (c, s) := by
 have hb : Nat.ble (ByteArray.size ⟨s.toArray⟩) 4611686018427387904 = true := by rw [size_mk]; exact Nat.ble_eq_true_of_le hl
 simp [spl, h1, h2, h3, fa, n1, n2, hb]
theorem Bh {ra rb : List AV → AH → Option St} {p k pp ps pv : Nat} {σ : List AV} {h : AH} {c : UInt8} {s : List UInt8} (hk : rV T k = true) (hs : spl h pp ps pv = some (c, s)) :
  rsS T ra rb p σ h (.fn (.func k) [] [.box pp 0, .box ps 0, .box pv 0]) = (rsV ra rb p ps pp pv c σ (au c s) h).map fun r => (r.1, σ, r.2) := by
 simp [rsS, hk, hs]
theorem iQ {a b : CC} {p ps pp pv : Nat} {c : UInt8} {σ : List AV} {x r : List UInt8} {xs : List (List UInt8 × List UInt8)} {h h2 : AH} (ha : ∃ σ1 h1, den T a ((shL σ).set p (.str ⟨x.toArray⟩)) h = some (.normal, σ1, h1))
  (hb : ∃ σ2, den T (.seq a b) ((shL σ).set p (.str ⟨x.toArray⟩)) h = some (.ret, σ2, h2)) : rsV (den T a) (den T b) p ps pp pv c σ ((x, r) :: xs) h = some (.ret, h2) := by
 obtain ⟨σ1, h1, ha⟩ := ha
 obtain ⟨σ2, hb⟩ := hb
 rw [iW, ha] at hb
 simp only [bnd, seqK] at hb
 simp only [rsV, ha, Option.bind_some, hb]
theorem kV {a b : CC} {p ps pp pv : Nat} {c : UInt8} {σ : List AV} {x r : List UInt8} {xs : List (List UInt8 × List UInt8)} {h h2 : AH} (ha : ∃ σ1 h1, den T a ((shL σ).set p (.str ⟨x.toArray⟩)) h = some (.normal, σ1, h1))
  (hb : ∃ σ2, den T (.seq a b) ((shL σ).set p (.str ⟨x.toArray⟩)) h = some (.normal, σ2, h2)) (k1 : h2[ps]? = some (.cells [.str ⟨r.toArray⟩])) (k2 : h2[pp]? = some (.cells [.str ⟨#[c]⟩])) (k3 : h2[pv]? = some (.cells [.int .i64 0])) :
  rsV (den T a) (den T b) p ps pp pv c σ ((x, r) :: xs) h = match xs with | [] => some (.normal, h2) | (_, r') :: _ => rsV (den T a) (den T b) p ps pp pv c σ xs (h2.set ps (.cells [.str ⟨r'.toArray⟩])) := by
 obtain ⟨σ1, h1, ha⟩ := ha
 obtain ⟨σ2, hb⟩ := hb
 rw [iW, ha] at hb
 simp only [bnd, seqK] at hb
 simp only [rsV, ha, Option.bind_some, hb, k1, k2, k3]
 simp [dF, fa]
 cases xs <;> rfl
theorem ft {c : UInt8} : ∀ {s : List UInt8} {q : List UInt8 × List UInt8}, q ∈ au c s → q.1.length ≤ s.length
 | [], q, hq => by simp [au] at hq; subst hq; simp
 | b :: s, q, hq => by
  simp only [au] at hq
  split at hq
  ·rcases List.mem_cons.1 hq with rfl | hq
   ·simp
   ·have := ft hq; simp; omega
  ·split at hq
   ·rename_i f t fs hsp
    rcases List.mem_cons.1 hq with rfl | hq
    ·have := ft (c := c) (s := s) (q := (f, t)) (by rw [hsp]; simp)
     simp at this ⊢; omega
    ·have := ft (c := c) (s := s) (q := q) (by rw [hsp]; simp [hq])
     simp; omega
   ·cases hq
end Go.Proofs.YtibchilpaaiecaaGreatDoor.L
/- Categories' names: how a name is read. -/
set_option linter.all false
set_option maxRecDepth 100000
namespace Go.Proofs.YtibchilpaaiecaaGreatDoor.L
open Go.Proofs.YtibchilpaaiecaaGreatDoor.M Go.Proofs.YtibchilpaaiecaaGreatDoor.F Go.Proofs
def encI (n : Int) : List AV := [.int .i64 n]
theorem Fh {p : List Int} : szOK 1 (p.map encI) = true := by cases p <;> rfl
theorem Fi : ∀ {p : List Int}, mrLL (p.map encI) = 0
 | [] => rfl
 | a :: p => by simp only [List.map_cons, mrLL, Fi (p := p)]; rfl
attribute [go_sem] Fh Fi
def HP (p : List Int) (r : List UInt8) : AH := [.cells [ow []], .cells [.int .i64 0], .cells [.bool false], .cells [ow (p.map encI)], .cells [.str ⟨r.toArray⟩], .cells [.str ⟨#[46]⟩], .cells [.int .i64 0]]
def iv : List Int → List (List UInt8) → Option (List Int)
 | acc, [] => some acc
 | acc, w :: ws => if (numC w 1048576).2 = true ∧ acc.length ≠ 6 then iv (acc ++ [(numC w 1048576).1]) ws else none
def endF : List Int → List (List UInt8 × List UInt8) → List Int × List UInt8
 | p, [] => (p, [])
 | p, [(x, r)] => if (numC x 1048576).2 = true ∧ p.length ≠ 6 then (p ++ [(numC x 1048576).1], r) else (p, r)
 | p, (x, r) :: y :: xs => if (numC x 1048576).2 = true ∧ p.length ≠ 6 then endF (p ++ [(numC x 1048576).1]) (y :: xs) else (p, r)
def sP (v0 v1 v5 v6 v7 v8 v9 v11 v12 v13 v14 v15 v16 v17 v18 v19 v20 v21 v22 v23 v24 v25 v26 v27 v28 v29 v30 v31 v32 v33 v34 v35 v37 v38 v39 v40 v41 v42 v43 v44 v45 v46 v47 v48 v49 v50 v51 v52 v53 v54 v36 : AV) : List AV := [v0, v1, .box 0 0, .box 1 0, .box 2 0, v5, v6, v7, v8, v9, .box 3 0, v11, v12, v13, v14, v15, v16, v17, v18, v19, v20, v21, v22, v23, v24, v25, v26, v27, v28, v29, v30, v31, v32, v33, v34, v35, v36, v37, v38, v39, v40, v41, v42, v43, v44, v45, v46, v47, v48, v49, v50, v51, v52, v53, v54]
section
variable {v0 v1 v5 v6 v7 v8 v9 v11 v12 v13 v14 v15 v16 v17 v18 v19 v20 v21 v22 v23 v24 v25 v26 v27 v28 v29 v30 v31 v32 v33 v34 v35 v37 v38 v39 v40 v41 v42 v43 v44 v45 v46 v47 v48 v49 v50 v51 v52 v53 v54 : AV}
theorem nQ {v36 : AV} {X : List UInt8} : (shL (sP v0 v1 v5 v6 v7 v8 v9 v11 v12 v13 v14 v15 v16 v17 v18 v19 v20 v21 v22 v23 v24 v25 v26 v27 v28 v29 v30 v31 v32 v33 v34 v35 v37 v38 v39 v40 v41 v42 v43 v44 v45 v46 v47 v48 v49 v50 v51 v52 v53 v54 v36)).set 36 (.str ⟨X.toArray⟩) = sP (AV.sh v0) (AV.sh v1) (AV.sh v5) (AV.sh v6) (AV.sh v7) (AV.sh v8) (AV.sh v9) (AV.sh v11) (AV.sh v12) (AV.sh v13) (AV.sh v14) (AV.sh v15) (AV.sh v16) (AV.sh v17) (AV.sh v18) (AV.sh v19) (AV.sh v20) (AV.sh v21) (AV.sh v22) (AV.sh v23) (AV.sh v24) (AV.sh v25) (AV.sh v26) (AV.sh v27) (AV.sh v28) (AV.sh v29) (AV.sh v30) (AV.sh v31) (AV.sh v32) (AV.sh v33) (AV.sh v34) (AV.sh v35) (AV.sh v37) (AV.sh v38) (AV.sh v39) (AV.sh v40) (AV.sh v41) (AV.sh v42) (AV.sh v43) (AV.sh v44) (AV.sh v45) (AV.sh v46) (AV.sh v47) (AV.sh v48) (AV.sh v49) (AV.sh v50) (AV.sh v51) (AV.sh v52) (AV.sh v53) (AV.sh v54) (.str ⟨X.toArray⟩) := rfl
theorem Bi {x : List UInt8} {h : AH} : ∃ σ1, den T bX (sP v0 v1 v5 v6 v7 v8 v9 v11 v12 v13 v14 v15 v16 v17 v18 v19 v20 v21 v22 v23 v24 v25 v26 v27 v28 v29 v30 v31 v32 v33 v34 v35 v37 v38 v39 v40 v41 v42 v43 v44 v45 v46 v47 v48 v49 v50 v51 v52 v53 v54 (.str ⟨x.toArray⟩)) h = some (.normal, σ1, h) := by
 simp -implicitDefEqProofs (disch := (refine ab ?_; first | assumption | omega | (simp [go_sem] <;> omega) | with_unfolding_all rfl | decide)) only [go_sem, Nat.reduceAdd, Nat.reduceSub, reduceIte, reduceCtorEq, sP]
 exact ⟨_, rfl⟩
theorem xd {x r : List UInt8} {p : List Int} (hx : x.length ≤ 281474976710656) (hb : (numC x 1048576).2 = false) : ∃ σ2, den T (.seq bX dX) (sP v0 v1 v5 v6 v7 v8 v9 v11 v12 v13 v14 v15 v16 v17 v18 v19 v20 v21 v22 v23 v24 v25 v26 v27 v28 v29 v30 v31 v32 v33 v34 v35 v37 v38 v39 v40 v41 v42 v43 v44 v45 v46 v47 v48 v49 v50 v51 v52 v53 v54 (.str ⟨x.toArray⟩)) (HP p r) = some (.ret, σ2, HP p r) := by
 have hn := oy (s := x) (m := 1048576) (h := []) hx (by omega)
 rw [hb] at hn
 simp -implicitDefEqProofs (disch := (refine ab ?_; first | assumption | omega | (simp [go_sem] <;> omega) | with_unfolding_all rfl | decide)) only [go_sem, Nat.reduceAdd, Nat.reduceSub, reduceIte, reduceCtorEq, sP, HP, hn]
 exact ⟨_, rfl⟩
theorem uq {x r : List UInt8} {p : List Int} (hx : x.length ≤ 281474976710656) (hb : (numC x 1048576).2 = true) (h6 : p.length = 6) : ∃ σ2, den T (.seq bX dX) (sP v0 v1 v5 v6 v7 v8 v9 v11 v12 v13 v14 v15 v16 v17 v18 v19 v20 v21 v22 v23 v24 v25 v26 v27 v28 v29 v30 v31 v32 v33 v34 v35 v37 v38 v39 v40 v41 v42 v43 v44 v45 v46 v47 v48 v49 v50 v51 v52 v53 v54 (.str ⟨x.toArray⟩)) (HP p r) = some (.ret, σ2, HP p r) := by
 have hn := oy (s := x) (m := 1048576) (h := []) hx (by omega)
 rw [hb] at hn
 have d1 : (((p.map encI).length : Int) == 6) = true := by simp [h6]
 simp -implicitDefEqProofs (disch := (refine ab ?_; first | assumption | omega | (simp [go_sem] <;> omega) | with_unfolding_all rfl | decide)) only [go_sem, Nat.reduceAdd, Nat.reduceSub, reduceIte, reduceCtorEq, sP, HP, hn, d1]
 exact ⟨_, rfl⟩
theorem Bj {x r : List UInt8} {p : List Int} (hx : x.length ≤ 281474976710656) (hb : (numC x 1048576).2 = true) (h6 : p.length < 6) :
  ∃ σ2, den T (.seq bX dX) (sP v0 v1 v5 v6 v7 v8 v9 v11 v12 v13 v14 v15 v16 v17 v18 v19 v20 v21 v22 v23 v24 v25 v26 v27 v28 v29 v30 v31 v32 v33 v34 v35 v37 v38 v39 v40 v41 v42 v43 v44 v45 v46 v47 v48 v49 v50 v51 v52 v53 v54 (.str ⟨x.toArray⟩)) (HP p r) = some (.normal, σ2, HP (p ++ [(numC x 1048576).1]) r) := by
 have hn := oy (s := x) (m := 1048576) (h := []) hx (by omega)
 rw [hb] at hn
 have d1 : (((p.map encI).length : Int) == 6) = false := by simp; omega
 have e1 : (p ++ [(numC x 1048576).1]).map encI = p.map encI ++ [[.int .i64 (numC x 1048576).1]] := by simp [encI]
 simp -implicitDefEqProofs (disch := (refine ab ?_; first | assumption | omega | (simp [go_sem] <;> omega) | with_unfolding_all rfl | decide)) only [go_sem, Nat.reduceAdd, Nat.reduceSub, reduceIte, reduceCtorEq, sP, HP, hn, d1, e1]
 exact ⟨_, rfl⟩
theorem ur {v36 : AV} : ∀ (xs : List (List UInt8 × List UInt8)) (x r : List UInt8) (p : List Int), (∀ q ∈ (x, r) :: xs, q.1.length ≤ 281474976710656) → p.length ≤ 6 →
  rsV (den T bX) (den T dX) 36 4 5 6 46 (sP v0 v1 v5 v6 v7 v8 v9 v11 v12 v13 v14 v15 v16 v17 v18 v19 v20 v21 v22 v23 v24 v25 v26 v27 v28 v29 v30 v31 v32 v33 v34 v35 v37 v38 v39 v40 v41 v42 v43 v44 v45 v46 v47 v48 v49 v50 v51 v52 v53 v54 v36) ((x, r) :: xs) (HP p r) = some (if (iv p (x :: xs.map (·.1))).isSome then .normal else .ret, HP (endF p ((x, r) :: xs)).1 (endF p ((x, r) :: xs)).2) := by
 intro xs
 induction xs with
 | nil =>
  intro x r p hl hp
  have hx := hl (x, r) (by simp)
  have ha : ∃ σ1 h1, den T bX ((shL (sP v0 v1 v5 v6 v7 v8 v9 v11 v12 v13 v14 v15 v16 v17 v18 v19 v20 v21 v22 v23 v24 v25 v26 v27 v28 v29 v30 v31 v32 v33 v34 v35 v37 v38 v39 v40 v41 v42 v43 v44 v45 v46 v47 v48 v49 v50 v51 v52 v53 v54 v36)).set 36 (.str ⟨x.toArray⟩)) (HP p r) = some (.normal, σ1, h1) := by
   rw [nQ]; obtain ⟨σ1, h1⟩ := Bi; exact ⟨σ1, _, h1⟩
  simp only [List.map_nil, iv, endF]
  cases hb : (numC x 1048576).2 with
  | false =>
   rw [iQ ha (by rw [nQ]; exact xd hx hb)]
   simp
  | true =>
   by_cases h6 : p.length = 6
   ·rw [iQ ha (by rw [nQ]; exact uq hx hb h6)]
    simp [h6]
   ·rw [kV ha (by rw [nQ]; exact Bj hx hb (by omega)) rfl rfl rfl]
    simp [h6]
 | cons y xs ih =>
  intro x r p hl hp
  obtain ⟨y, r'⟩ := y
  have hx := hl (x, r) (by simp)
  have ha : ∃ σ1 h1, den T bX ((shL (sP v0 v1 v5 v6 v7 v8 v9 v11 v12 v13 v14 v15 v16 v17 v18 v19 v20 v21 v22 v23 v24 v25 v26 v27 v28 v29 v30 v31 v32 v33 v34 v35 v37 v38 v39 v40 v41 v42 v43 v44 v45 v46 v47 v48 v49 v50 v51 v52 v53 v54 v36)).set 36 (.str ⟨x.toArray⟩)) (HP p r) = some (.normal, σ1, h1) := by
   rw [nQ]; obtain ⟨σ1, h1⟩ := Bi; exact ⟨σ1, _, h1⟩
  rw [List.map_cons, iv, endF]
  cases hb : (numC x 1048576).2 with
  | false =>
   rw [iQ ha (by rw [nQ]; exact xd hx hb)]
   simp
  | true =>
   by_cases h6 : p.length = 6
   ·rw [iQ ha (by rw [nQ]; exact uq hx hb h6)]
    simp [h6]
   ·have h1 := ih y r' (p ++ [(numC x 1048576).1]) (fun q hq => hl q (List.mem_cons_of_mem _ hq)) (by simp; omega)
    rw [kV ha (by rw [nQ]; exact Bj hx hb (by omega)) rfl rfl rfl]
    have e : (HP (p ++ [(numC x 1048576).1]) r).set 4 (.cells [.str ⟨r'.toArray⟩]) = HP (p ++ [(numC x 1048576).1]) r' := rfl
    simp only [e, h1]
    simp [h6]
theorem Bk : ∀ (xs : List (List UInt8 × List UInt8)) (p q : List Int), iv p (xs.map (·.1)) = some q → (endF p xs).1 = q
 | [], p, q, h => by simpa [iv, endF] using h
 | [(x, r)], p, q, h => by
  simp only [List.map_cons, List.map_nil, iv] at h
  simp only [endF]
  split at h
  ·rename_i hc; rw [if_pos hc]; simpa using h
  ·cases h
 | (x, r) :: y :: xs, p, q, h => by
  rw [List.map_cons, iv] at h
  rw [endF]
  split at h
  ·rename_i hc; rw [if_pos hc]; exact Bk (y :: xs) _ _ h
  ·cases h
theorem fF (c : UInt8) : ∀ s : List UInt8, ∃ x xs, au c s = (x, s) :: xs
 | [] => ⟨[], [], rfl⟩
 | b :: s => by
  obtain ⟨x, xs, h⟩ := fF c s
  simp only [au]
  split
  ·exact ⟨_, _, rfl⟩
  ·rw [h]; exact ⟨_, _, rfl⟩
theorem vS {v36 : AV} {w : List UInt8} (hw : w.length ≤ 281474976710656) :
  rsS T (den T bX) (den T dX) 36 (sP v0 v1 v5 v6 v7 v8 v9 v11 v12 v13 v14 v15 v16 v17 v18 v19 v20 v21 v22 v23 v24 v25 v26 v27 v28 v29 v30 v31 v32 v33 v34 v35 v37 v38 v39 v40 v41 v42 v43 v44 v45 v46 v47 v48 v49 v50 v51 v52 v53 v54 v36) (HP [] w) (.fn (.func 118) [] [.box 5 0, .box 4 0, .box 6 0]) =
   some (if (iv [] ((au 46 w).map (·.1))).isSome then .normal else .ret, sP v0 v1 v5 v6 v7 v8 v9 v11 v12 v13 v14 v15 v16 v17 v18 v19 v20 v21 v22 v23 v24 v25 v26 v27 v28 v29 v30 v31 v32 v33 v34 v35 v37 v38 v39 v40 v41 v42 v43 v44 v45 v46 v47 v48 v49 v50 v51 v52 v53 v54 v36, HP (endF [] (au 46 w)).1 (endF [] (au 46 w)).2) := by
 rw [Bh (c := 46) (s := w) mN (Bg rfl rfl rfl (by decide) (by decide) (by omega))]
 obtain ⟨x, xs, h⟩ := fF 46 w
 have hl : ∀ q ∈ au 46 w, q.1.length ≤ 281474976710656 := fun q hq => Nat.le_trans (ft hq) hw
 rw [h] at hl ⊢
 rw [ur xs x w [] hl (by simp)]
 rfl
end
def parC (s : List UInt8) : List Int × Int × Bool :=
 if (cutC 47 s).2.2 = true ∧ (numC (cutC 47 s).2.1 65535).2 = true then
  if (cutC 47 s).1 = [] then ([], (numC (cutC 47 s).2.1 65535).1, true)
  else match iv [] ((au 46 (cutC 47 s).1).map (·.1)) with
   | some p => (p, (numC (cutC 47 s).2.1 65535).1, true)
   | none => ([], 0, false)
 else ([], 0, false)
theorem oz {c : UInt8} {s : List UInt8} : (cutC c s).1.length ≤ s.length ∧ (cutC c s).2.1.length ≤ s.length := by
 unfold cutC; split
 ·simp only [List.length_take, List.length_drop]; omega
 ·simp
theorem sG {s : List UInt8} (hs : s.length ≤ 281474976710656) : run T 112 [.str ⟨s.toArray⟩] [] = some (.tup [.sl .sh ((parC s).1.map encI), .int .i64 (parC s).2.1, .bool (parC s).2.2], []) := by
 have h1 := vR (s := s) (c := 47) (h := []) (by omega)
 obtain ⟨l1, l2⟩ := oz (c := 47) (s := s)
 rw [af K4]
 unfold parC
 generalize cutC 47 s = ct at *
 obtain ⟨way, last, ok⟩ := ct
 simp only at h1 l1 l2 ⊢
 have h2 := oy (s := last) (m := 65535) (h := []) (by omega) (by omega)
 generalize numC last 65535 = nm at *
 obtain ⟨n, is⟩ := nm
 simp only at h2 ⊢
 cases ok with
 | false =>
  simp only [Bool.false_eq_true, false_and, if_false, List.map_nil]
  simp -implicitDefEqProofs (disch := (refine ab ?_; first | assumption | omega | (simp [go_sem] <;> omega) | with_unfolding_all rfl | decide)) only [go_sem, Nat.reduceAdd, Nat.reduceSub, reduceIte, reduceCtorEq, dH, h1, h2]
 | true =>
  cases is with
  | false =>
   simp only [Bool.false_eq_true, and_false, if_false, List.map_nil]
   simp -implicitDefEqProofs (disch := (refine ab ?_; first | assumption | omega | (simp [go_sem] <;> omega) | with_unfolding_all rfl | decide)) only [go_sem, Nat.reduceAdd, Nat.reduceSub, reduceIte, reduceCtorEq, dH, h1, h2]
  | true =>
   simp only [and_self, if_true]
   cases way with
   | nil =>
    simp only [if_true, List.map_nil]
    have e1 : (([] : List UInt8) == []) = true := rfl
    simp -implicitDefEqProofs (disch := (refine ab ?_; first | assumption | omega | (simp [go_sem] <;> omega) | with_unfolding_all rfl | decide)) only [go_sem, Nat.reduceAdd, Nat.reduceSub, reduceIte, reduceCtorEq, dH, h1, h2, e1]
   | cons b way =>
    simp only [List.cons_ne_nil, if_false]
    have h3 := pN (s := ⟨(b :: way).toArray⟩) (d := ⟨#[46]⟩) (h := [.cells [ow []], .cells [.int .i64 0], .cells [.bool false], .cells [ow []]])
    simp only [List.length_cons, List.length_nil, List.cons_append, List.nil_append, Nat.zero_add, Nat.reduceAdd] at h3
    have e1 : (b :: way == ([] : List UInt8)) = false := rfl
    have h4 := @vS
    simp only [sP] at h4
    have h5 := fun v0 v1 v5 v6 v7 v8 v9 v11 v12 v13 v14 v15 v16 v17 v18 v19 v20 v21 v22 v23 v24 v25 v26 v27 v28 v29 v30 v31 v32 v33 v34 v35 v37 v38 v39 v40 v41 v42 v43 v44 v45 v46 v47 v48 v49 v50 v51 v52 v53 v54 v36 => @h4 v0 v1 v5 v6 v7 v8 v9 v11 v12 v13 v14 v15 v16 v17 v18 v19 v20 v21 v22 v23 v24 v25 v26 v27 v28 v29 v30 v31 v32 v33 v34 v35 v37 v38 v39 v40 v41 v42 v43 v44 v45 v46 v47 v48 v49 v50 v51 v52 v53 v54 v36 (b :: way) (by omega)
    clear h4
    have hz := Bk (au 46 (b :: way)) []
    generalize endF [] (au 46 (b :: way)) = ef at *
    obtain ⟨p', r'⟩ := ef
    cases hp : iv [] ((au 46 (b :: way)).map (·.1)) with
    | none =>
     simp only [hp, HP, Option.isSome_none, Bool.false_eq_true, if_false, List.map_nil] at h5 ⊢
     simp -implicitDefEqProofs (disch := (refine ab ?_; first | assumption | omega | (simp [go_sem] <;> omega) | with_unfolding_all rfl | decide)) only [go_sem, Nat.reduceAdd, Nat.reduceSub, reduceIte, reduceCtorEq, dH, h1, h2, e1, h3, h5]
    | some q =>
     have hz' := hz q hp
     simp only at hz'
     subst hz'
     simp only [hp, HP, Option.isSome_some, if_true, List.map_nil] at h5 ⊢
     simp -implicitDefEqProofs (disch := (refine ab ?_; first | assumption | omega | (simp [go_sem] <;> omega) | with_unfolding_all rfl | decide)) only [go_sem, Nat.reduceAdd, Nat.reduceSub, reduceIte, reduceCtorEq, dH, h1, h2, e1, h3, h5]
end Go.Proofs.YtibchilpaaiecaaGreatDoor.L
/- Categories' names: how two are compared. -/
set_option linter.all false
set_option maxRecDepth 100000
namespace Go.Proofs.YtibchilpaaiecaaGreatDoor.L
open Go.Proofs.YtibchilpaaiecaaGreatDoor.M Go.Proofs.YtibchilpaaiecaaGreatDoor.F Go.Proofs
def cmpI (a b : Int) : Int := if a < b then -1 else if b < a then 1 else 0
def cmpS (a b : List UInt8) : Int := if Op.bytesLess a b = true then -1 else if (Op.bytesLess a b || a == b) = true then 0 else 1
def cmpL : List Int → List Int → Int
 | [], [] => 0
 | [], _ :: _ => -1
 | _ :: _, [] => 1
 | a :: l, b :: m => if cmpI a b ≠ 0 then cmpI a b else cmpL l m
theorem nanI {n : Int} {h : AH} : run T 167 [.int .i64 n] h = some (.bool false, h) := by
 have e : (n != n) = false := by simp
 rw [af Lp]
 simp -implicitDefEqProofs (disch := (refine ab ?_; first | assumption | omega | (simp [go_sem] <;> omega) | with_unfolding_all rfl | decide)) only [go_sem, Nat.reduceAdd, Nat.reduceSub, reduceIte, reduceCtorEq, fE, e]
theorem nanS {s : List UInt8} {h : AH} : run T 166 [.str ⟨s.toArray⟩] h = some (.bool false, h) := by
 have e : (!(s == s)) = false := by simp
 rw [af Lo]
 simp -implicitDefEqProofs (disch := (refine ab ?_; first | assumption | omega | (simp [go_sem] <;> omega) | with_unfolding_all rfl | decide)) only [go_sem, Nat.reduceAdd, Nat.reduceSub, reduceIte, reduceCtorEq, eu, e]
theorem xe {a b : Int} {h : AH} : run T 154 [.int .i64 a, .int .i64 b] h = some (.int .i64 (cmpI a b), h) := by
 have n1 := nanI (n := a) (h := [])
 have n2 := nanI (n := b) (h := [])
 rw [af Ll]
 unfold cmpI
 by_cases h1 : a < b
 ·have e1 : decide (a < b) = true := decide_eq_true h1
  rw [if_pos h1]
  simp -implicitDefEqProofs (disch := (refine ab ?_; first | assumption | omega | (simp [go_sem] <;> omega) | with_unfolding_all rfl | decide)) only [go_sem, Nat.reduceAdd, Nat.reduceSub, reduceIte, reduceCtorEq, cN, n1, n2, e1]
 ·have e1 : decide (a < b) = false := decide_eq_false h1
  rw [if_neg h1]
  by_cases h2 : b < a
  ·have e2 : decide (a > b) = true := decide_eq_true h2
   rw [if_pos h2]
   simp -implicitDefEqProofs (disch := (refine ab ?_; first | assumption | omega | (simp [go_sem] <;> omega) | with_unfolding_all rfl | decide)) only [go_sem, Nat.reduceAdd, Nat.reduceSub, reduceIte, reduceCtorEq, cN, n1, n2, e1, e2]
  ·have e2 : decide (a > b) = false := decide_eq_false h2
   rw [if_neg h2]
   simp -implicitDefEqProofs (disch := (refine ab ?_; first | assumption | omega | (simp [go_sem] <;> omega) | with_unfolding_all rfl | decide)) only [go_sem, Nat.reduceAdd, Nat.reduceSub, reduceIte, reduceCtorEq, cN, n1, n2, e1, e2]
theorem Dy {a b : List UInt8} {h : AH} : run T 151 [.str ⟨a.toArray⟩, .str ⟨b.toArray⟩] h = some (.int .i64 (cmpS a b), h) := by
 have n1 := nanS (s := a) (h := [])
 have n2 := nanS (s := b) (h := [])
 rw [af Li]
 unfold cmpS
 cases h1 : Op.bytesLess a b with
 | true =>
  simp only [if_true]
  simp -implicitDefEqProofs (disch := (refine ab ?_; first | assumption | omega | (simp [go_sem] <;> omega) | with_unfolding_all rfl | decide)) only [go_sem, Nat.reduceAdd, Nat.reduceSub, reduceIte, reduceCtorEq, bN, n1, n2, h1]
 | false =>
  simp only [Bool.false_eq_true, if_false, Bool.false_or]
  cases h2 : (a == b) with
  | true =>
   have e2 : (!(false || true)) = false := rfl
   simp only [if_true]
   simp -implicitDefEqProofs (disch := (refine ab ?_; first | assumption | omega | (simp [go_sem] <;> omega) | with_unfolding_all rfl | decide)) only [go_sem, Nat.reduceAdd, Nat.reduceSub, reduceIte, reduceCtorEq, bN, n1, n2, h1, h2, e2]
  | false =>
   have e2 : (!(false || false)) = true := rfl
   simp only [Bool.false_eq_true, if_false]
   simp -implicitDefEqProofs (disch := (refine ab ?_; first | assumption | omega | (simp [go_sem] <;> omega) | with_unfolding_all rfl | decide)) only [go_sem, Nat.reduceAdd, Nat.reduceSub, reduceIte, reduceCtorEq, bN, n1, n2, h1, h2, e2]
theorem J6 {a b : Int} {h : AH} : run T 152 [.sl .sh [[.int .i64 a], [.int .i64 b]]] h = some (.int .i64 (if a ≠ 0 then a else b), h) := by
 rw [af Lj]
 have f0 : decide ((0 : Int) < ((2 : Nat) : Int)) = true := rfl
 have f1 : decide ((1 : Int) < ((2 : Nat) : Int)) = true := rfl
 have f2 : decide ((2 : Int) < ((2 : Nat) : Int)) = false := rfl
 have g0 : IntKind.i64.wrap (0 + 1) = 1 := by decide
 have g1 : IntKind.i64.wrap (1 + 1) = 2 := by decide
 have i0 : ∀ x y : List AV, [x, y][(0 : Int).toNat]? = some x := fun _ _ => rfl
 have i1 : ∀ x y : List AV, [x, y][(1 : Int).toNat]? = some y := fun _ _ => rfl
 by_cases h1 : a = 0
 ·have e1 : (a != 0) = false := by simp [h1]
  rw [if_neg (by simpa using h1)]
  by_cases h2 : b = 0
  ·have e2 : (b != 0) = false := by simp [h2]
   subst h1 h2
   simp -implicitDefEqProofs (disch := (refine ab ?_; first | assumption | omega | (simp [go_sem] <;> omega) | with_unfolding_all rfl | decide)) only [go_sem, Nat.reduceAdd, Nat.reduceSub, reduceIte, reduceCtorEq, fq, e1, ae, f0, f1, f2, g0, g1, i0, i1]
  ·have e2 : (b != 0) = true := by simp [h2]
   simp -implicitDefEqProofs (disch := (refine ab ?_; first | assumption | omega | (simp [go_sem] <;> omega) | with_unfolding_all rfl | decide)) only [go_sem, Nat.reduceAdd, Nat.reduceSub, reduceIte, reduceCtorEq, fq, e1, e2, ae, f0, f1, f2, g0, g1, i0, i1]
 ·have e1 : (a != 0) = true := by simp [h1]
  rw [if_pos h1]
  simp -implicitDefEqProofs (disch := (refine ab ?_; first | assumption | omega | (simp [go_sem] <;> omega) | with_unfolding_all rfl | decide)) only [go_sem, Nat.reduceAdd, Nat.reduceSub, reduceIte, reduceCtorEq, fq, e1, ae, f0, i0]
theorem Bl {a b : List Int} {h : AH} (ha : a.length ≤ 9223372036854775806) : ∀ (d i : Nat), d + i = a.length → i ≤ b.length →
  (cmpL (a.drop i) (b.drop i) = (if a.length < b.length then -1 else 0) ∧ den T (.loop cY) (eM (.sl .sh (a.map encI)) (.sl .sh (b.map encI)) (.sl .sh (a.map encI)) (.int .i64 a.length) (.int .i64 i)) h = some (.exit 0, iy (.sl .sh (a.map encI)) (.sl .sh (b.map encI)), h)) ∨
  ∃ σ, den T (.loop cY) (eM (.sl .sh (a.map encI)) (.sl .sh (b.map encI)) (.sl .sh (a.map encI)) (.int .i64 a.length) (.int .i64 i)) h = some (.ret, σ, h) ∧ σ.getD 4 aa = .int .i64 (cmpL (a.drop i) (b.drop i)) := by
 intro d
 induction d with
 | zero =>
  intro i hd hi
  have hd' : decide ((i : Int) < a.length) = false := decide_eq_false (by omega)
  refine .inl ⟨?_, ?_⟩
  ·rw [List.drop_eq_nil_of_le (by omega)]
   by_cases hl : a.length < b.length
   ·rw [if_pos hl, List.drop_eq_getElem_cons (by omega)]; rfl
   ·rw [if_neg hl, List.drop_eq_nil_of_le (by omega)]; rfl
  ·rw [ae]
   simp -implicitDefEqProofs (disch := (refine ab ?_; first | assumption | omega | (simp [go_sem] <;> omega) | with_unfolding_all rfl | decide)) only [go_sem, Nat.reduceAdd, Nat.reduceSub, reduceIte, reduceCtorEq, hd']
 | succ d ih =>
  intro i hd hi
  have hia : i < a.length := by omega
  have hd' : decide ((i : Int) < a.length) = true := decide_eq_true (by omega)
  have hga : (a.map encI)[(i : Int).toNat]? = some (encI a[i]) := by simp [hia]
  have hda : a.drop i = a[i] :: a.drop (i + 1) := List.drop_eq_getElem_cons hia
  rw [hda]
  generalize a[i] = x at *
  by_cases hib : i < b.length
  ·have hgb : (b.map encI)[(i : Int).toNat]? = some (encI b[i]) := by simp [hib]
   have hdb : b.drop i = b[i] :: b.drop (i + 1) := List.drop_eq_getElem_cons hib
   have e1 : decide ((i : Int) ≥ ((b.map encI).length : Nat)) = false := decide_eq_false (by simp; omega)
   rw [hdb]
   generalize b[i] = y at *
   have hc := xe (a := x) (b := y) (h := [])
   simp only [cmpL]
   by_cases hz : cmpI x y = 0
   ·have e2 : (cmpI x y != 0) = false := by simp [hz]
    have e7 : IntKind.i64.wrap ((i : Int) + 1) = ((i + 1 : Nat) : Int) := by rw [w64 (by omega) (by omega)]; rfl
    rw [if_neg (by simpa using hz)]
    have := ih (i + 1) (by omega) (by omega)
    rw [ae]
    simp -implicitDefEqProofs (disch := (refine ab ?_; first | assumption | omega | (simp [go_sem] <;> omega) | with_unfolding_all rfl | decide)) only [go_sem, Nat.reduceAdd, Nat.reduceSub, reduceIte, reduceCtorEq, hd', hga, hgb, encI, e1, hc, e2, e7]
    exact this
   ·have e2 : (cmpI x y != 0) = true := by simp [hz]
    rw [if_pos hz]
    right
    rw [ae]
    simp -implicitDefEqProofs (disch := (refine ab ?_; first | assumption | omega | (simp [go_sem] <;> omega) | with_unfolding_all rfl | decide)) only [go_sem, Nat.reduceAdd, Nat.reduceSub, reduceIte, reduceCtorEq, hd', hga, hgb, encI, e1, hc, e2]
    exact ⟨_, rfl, rfl⟩
  ·have e1 : decide ((i : Int) ≥ ((b.map encI).length : Nat)) = true := decide_eq_true (by simp; omega)
   rw [List.drop_eq_nil_of_le (show b.length ≤ i by omega)]
   simp only [cmpL]
   right
   rw [ae]
   simp -implicitDefEqProofs (disch := (refine ab ?_; first | assumption | omega | (simp [go_sem] <;> omega) | with_unfolding_all rfl | decide)) only [go_sem, Nat.reduceAdd, Nat.reduceSub, reduceIte, reduceCtorEq, hd', hga, encI, e1]
   exact ⟨_, rfl, rfl⟩
theorem Dz {a b : List Int} {h : AH} (ha : a.length ≤ 9223372036854775806) : run T 153 [.sl .sh (a.map encI), .sl .sh (b.map encI)] h = some (.int .i64 (cmpL a b), h) := by
 have hl := Bl (b := b) (h := h) ha a.length 0 (by omega) (by omega)
 simp only [List.drop_zero, show ((0 : Nat) : Int) = 0 from rfl] at hl
 rw [af Lk]
 rcases hl with ⟨h1, h2⟩ | ⟨σ, h1, h2⟩
 ·rw [h1]
  by_cases hlt : a.length < b.length
  ·have e1 : decide ((a.length : Int) < (b.length : Int)) = true := decide_eq_true (by omega)
   rw [if_pos hlt]
   simp -implicitDefEqProofs (disch := (refine ab ?_; first | assumption | omega | (simp [go_sem] <;> omega) | with_unfolding_all rfl | decide)) only [go_sem, Nat.reduceAdd, Nat.reduceSub, reduceIte, reduceCtorEq, ba, List.length_map, h2, e1]
  ·have e1 : decide ((a.length : Int) < (b.length : Int)) = false := decide_eq_false (by omega)
   rw [if_neg hlt]
   simp -implicitDefEqProofs (disch := (refine ab ?_; first | assumption | omega | (simp [go_sem] <;> omega) | with_unfolding_all rfl | decide)) only [go_sem, Nat.reduceAdd, Nat.reduceSub, reduceIte, reduceCtorEq, ba, List.length_map, h2, e1]
 ·simp -implicitDefEqProofs (disch := (refine ab ?_; first | assumption | omega | (simp [go_sem] <;> omega) | with_unfolding_all rfl | decide)) only [go_sem, Nat.reduceAdd, Nat.reduceSub, reduceIte, reduceCtorEq, ba, List.length_map, h1, h2]
def rigC (s : List UInt8) : Bool := (parC s).2.2
def comC (a b : List UInt8) : Int :=
 if rigC a = false ∧ rigC b = false then cmpS a b
 else if rigC a = false then 1
 else if rigC b = false then -1
 else if cmpL (parC a).1 (parC b).1 ≠ 0 then cmpL (parC a).1 (parC b).1 else cmpI (parC a).2.1 (parC b).2.1
theorem sH {s : List UInt8} {h : AH} (hs : s.length ≤ 281474976710656) : run T 84 [.str ⟨s.toArray⟩] h = some (.bool (rigC s), h) := by
 have h1 := sG hs
 rw [af T_84]
 unfold rigC
 simp -implicitDefEqProofs (disch := (refine ab ?_; first | assumption | omega | (simp [go_sem] <;> omega) | with_unfolding_all rfl | decide)) only [go_sem, Nat.reduceAdd, Nat.reduceSub, reduceIte, reduceCtorEq, iI, h1]
theorem pO : ∀ (l : List (List UInt8)) (p q : List Int), iv p l = some q → p.length ≤ 6 → q.length ≤ 6
 | [], p, q, h, hp => by simp only [iv, Option.some.injEq] at h; subst h; exact hp
 | w :: l, p, q, h, hp => by
  simp only [iv] at h
  split at h
  ·rename_i hc; exact pO l _ q h (by simp; omega)
  ·cases h
theorem mT (s : List UInt8) : (parC s).1.length ≤ 6 := by
 unfold parC
 split
 ·split
  ·simp
  ·split
   ·rename_i p hp; exact pO _ [] p hp (by simp)
   ·simp
 ·simp
theorem xf {a b : List UInt8} {h : AH} (ha : a.length ≤ 281474976710656) (hb : b.length ≤ 281474976710656) : run T 126 [.str ⟨a.toArray⟩, .str ⟨b.toArray⟩] h = some (.int .i64 (comC a b), h) := by
 have h1 := sG ha
 have h2 := sG hb
 have l1 := mT a
 have l2 := mT b
 rw [af K9]
 unfold comC rigC
 generalize parC a = p at *
 generalize parC b = q at *
 obtain ⟨p1, p2, p3⟩ := p
 obtain ⟨q1, q2, q3⟩ := q
 simp only at h1 h2 l1 l2 ⊢
 have h3 := Dz (a := p1) (b := q1) (h := []) (by omega)
 have h4 := xe (a := p2) (b := q2) (h := [])
 have h5 := J6 (a := cmpL p1 q1) (b := cmpI p2 q2) (h := [])
 have h6 := Dy (a := a) (b := b) (h := [])
 cases p3 <;> cases q3 <;> simp only [Bool.true_eq_false, and_self, and_true, and_false, if_true, if_false, false_and, true_and]
 ·simp -implicitDefEqProofs (disch := (refine ab ?_; first | assumption | omega | (simp [go_sem] <;> omega) | with_unfolding_all rfl | decide)) only [go_sem, Nat.reduceAdd, Nat.reduceSub, reduceIte, reduceCtorEq, dt, h1, h2, h6]
 ·simp -implicitDefEqProofs (disch := (refine ab ?_; first | assumption | omega | (simp [go_sem] <;> omega) | with_unfolding_all rfl | decide)) only [go_sem, Nat.reduceAdd, Nat.reduceSub, reduceIte, reduceCtorEq, dt, h1, h2]
 ·simp -implicitDefEqProofs (disch := (refine ab ?_; first | assumption | omega | (simp [go_sem] <;> omega) | with_unfolding_all rfl | decide)) only [go_sem, Nat.reduceAdd, Nat.reduceSub, reduceIte, reduceCtorEq, dt, h1, h2]
 ·simp -implicitDefEqProofs (disch := (refine ab ?_; first | assumption | omega | (simp [go_sem] <;> omega) | with_unfolding_all rfl | decide)) only [go_sem, Nat.reduceAdd, Nat.reduceSub, reduceIte, reduceCtorEq, dt, h1, h2, h3, h4, h5]
end Go.Proofs.YtibchilpaaiecaaGreatDoor.L
