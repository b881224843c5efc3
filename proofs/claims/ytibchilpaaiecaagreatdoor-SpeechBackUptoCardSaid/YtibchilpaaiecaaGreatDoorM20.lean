/- Arguments: flat structs and arrays of whole numbers. -/
import Derived.Test.YtibchilpaaiecaaGreatDoorM18
import Derived.OpenShut
import Derived.Lib.ItoaNum
import Derived.Lib.AtoiAll
import Derived.Lib.Bytealg
import Derived.Lib.Join
import Derived.Lib.LaidTab
import Derived.Lib.AtoiErrMem
import Derived.WalkSmall
import Derived.Shelf.Strconv.Itoa3
set_option linter.all false
namespace Go.Proofs.YtibchilpaaiecaaGreatDoor.M
open Go.RowKit Go.ChangeShapes Go.WideShapes
variable {P : Program} {w : World}
theorem ints_of {k : IntKind} : ∀ {cs : List Value}, (∀ i, i < cs.length → ∃ n, cs[i]? = some (.int k n) ∧ (Lit.int k n).wf = true) → ∃ zs : List Int, cs = zs.map (Value.int k) ∧ ∀ z ∈ zs, (Lit.int k z).wf = true
  | [], _ => ⟨[], rfl, by simp⟩
  | c :: cs, h => by
    obtain ⟨n, h1, h2⟩ := h 0 (by simp)
    simp at h1; subst h1
    obtain ⟨zs, rfl, hz⟩ := ints_of (cs := cs) fun i hi => by
      obtain ⟨m, q1, q2⟩ := h (i + 1) (by simpa using hi)
      exact ⟨m, by simpa using q1, q2⟩
    exact ⟨n :: zs, rfl, fun z hz' => (List.mem_cons.1 hz').elim (fun e => e ▸ h2) (hz z)⟩
theorem VL_ints {g : Gh} {k : IntKind} : ∀ (zs : List Int), VL g (zs.map (AV.int k)) (zs.map (Value.int k)) ∧ clL (zs.map (AV.int k)) = true ∧ onesL (zs.map (AV.int k)) = true
  | [] => ⟨by simp [VL], rfl, rfl⟩
  | z :: zs => by
    obtain ⟨h1, h2, h3⟩ := VL_ints (g := g) (k := k) zs
    exact ⟨by simp only [List.map_cons, VL]; exact ⟨_, _, rfl, by simp [VR], h1⟩, by simp only [List.map_cons, clL, h2]; rfl, by simp only [List.map_cons, onesL, h3]; rfl⟩
def flatI (P : Program) (k : IntKind) : Nat → List Field → Bool
  | _, [] => true
  | i, f :: fs => (match P.underlying f.type with | some (.int k') => k' == k | _ => false) && (f.offset == i) && (P.cellsOf f.type == 1) && flatI P k (i + 1) fs
theorem flatI_get {k : IntKind} : ∀ {i : Nat} {fs : List Field}, flatI P k i fs = true → ∀ j f, fs[j]? = some f → P.underlying f.type = some (.int k) ∧ f.offset = i + j ∧ P.cellsOf f.type = 1
  | i, [], _, j, f, hf => by simp at hf
  | i, f' :: fs, h, j, f, hf => by
    simp only [flatI, Bool.and_eq_true, beq_iff_eq] at h
    obtain ⟨⟨⟨h1, h2⟩, h3⟩, h4⟩ := h
    cases j with
    | zero =>
      simp at hf; subst hf
      refine ⟨?_, by omega, h3⟩
      split at h1
      · rename_i k' hk; rw [hk]; simp at h1; rw [h1]
      · cases h1
    | succ j =>
      obtain ⟨q1, q2, q3⟩ := flatI_get h4 j f (by simpa using hf)
      exact ⟨q1, by omega, q3⟩
theorem Rd.structI {t : TypeId} {fs : Array Field} {k : IntKind} (ht : P.underlying t = some (.struct fs)) (hf : flatI P k 0 fs.toList = true) (hS : P.cellsOf t = fs.size) :
    Rd P w t (fun xs => ∃ zs : List Int, xs = zs.map (AV.int k) ∧ zs.length = fs.size ∧ ∀ z ∈ zs, (Lit.int k z).wf = true) := by
  intro H enc fuel cs x h
  obtain ⟨xs, n, _, _, hl, hxl, hx⟩ := DataW.trod_struct ht h
  have hall : ∀ i, i < cs.length → ∃ m, cs[i]? = some (.int k m) ∧ (Lit.int k m).wf = true := by
    intro i hi
    have hif : i < fs.size := by omega
    have hfi : fs[i]? = some fs[i] := by simp [hif]
    obtain ⟨q1, q2, q3⟩ := flatI_get hf i fs[i] (by simp [hif])
    have := hx i fs[i] hfi
    obtain ⟨y, hy⟩ : ∃ y, xs[i]? = some y := ⟨xs[i]'(by omega), by simp⟩
    rw [hy, q2, q3] at this
    obtain ⟨m, hm, _, hw⟩ := DataW.trod_int q1 this
    refine ⟨m, ?_, hw⟩
    have h0 : ((cs.drop (0 + i)).take 1)[0]? = some (.int k m) := by rw [hm]; rfl
    simpa using h0
  obtain ⟨zs, rfl, hz⟩ := ints_of hall
  obtain ⟨v1, v2, v3⟩ := VL_ints (g := gW w) (k := k) zs
  exact ⟨_, v1, v2, v3, zs, rfl, by simpa using hl.trans hS, hz⟩
theorem Rd.arrI {t e : TypeId} {n : Nat} {k : IntKind} (ht : P.underlying t = some (.array n e)) (he : P.underlying e = some (.int k)) (h1 : P.cellsOf e = 1) (hS : P.cellsOf t = n) :
    Rd P w t (fun xs => ∃ zs : List Int, xs = zs.map (AV.int k) ∧ zs.length = n ∧ ∀ z ∈ zs, (Lit.int k z).wf = true) := by
  intro H enc fuel cs x h
  obtain ⟨xs, m, _, _, hl, hxl, hx⟩ := DataW.trod_array ht h
  have hall : ∀ i, i < cs.length → ∃ m, cs[i]? = some (.int k m) ∧ (Lit.int k m).wf = true := by
    intro i hi
    have := hx i (by omega)
    obtain ⟨y, hy⟩ : ∃ y, xs[i]? = some y := ⟨xs[i]'(by omega), by simp⟩
    rw [hy, h1, Nat.mul_one] at this
    obtain ⟨m, hm, _, hw⟩ := DataW.trod_int he this
    refine ⟨m, ?_, hw⟩
    have h0 : ((cs.drop i).take 1)[0]? = some (.int k m) := by rw [hm]; rfl
    simpa using h0
  obtain ⟨zs, rfl, hz⟩ := ints_of hall
  obtain ⟨v1, v2, v3⟩ := VL_ints (g := gW w) (k := k) zs
  exact ⟨_, v1, v2, v3, zs, rfl, by simpa using hl.trans hS, hz⟩
theorem Rd.agg {t : TypeId} {Q : List AV → Prop} (h : Rd P w t Q) {H : Type} {en : TypeId × Value → H} {vs : Array Value} {d : DataW H} {ps : List MemPlace}
    (hd : DataW.Trod en P w 0 (fun _ => true) true t (.agg vs) d ps) : ∃ ys, VR (gW w) (.agg ys) (.agg vs) ∧ (AV.agg ys).cl = true ∧ Q ys := by
  obtain ⟨ys, h1, h2, h3, h4⟩ := h.of_trod hd
  exact ⟨ys, by simp only [VR]; exact ⟨vs, rfl, h1, h3⟩, by simpa only [AV.cl] using h2, h4⟩
theorem okWide_arr {t e : TypeId} {n b : Nat} {r : Reach} {v : Value} (ht : P.underlying t = some (.array n e)) (h : Value.okWide P w r b t v) : ∃ cs, v = .agg cs := by
  simp only [Value.okWide, ht] at h
  obtain ⟨cs, h1, _⟩ := h
  exact ⟨cs, h1⟩
theorem len2 {α : Type} {l : List α} (h : l.length = 2) : ∃ a b, l = [a, b] := by
  match l, h with
  | [a, b], _ => exact ⟨a, b, rfl⟩
theorem len3 {α : Type} {l : List α} (h : l.length = 3) : ∃ a b c, l = [a, b, c] := by
  match l, h with
  | [a, b, c], _ => exact ⟨a, b, c, rfl⟩
end Go.Proofs.YtibchilpaaiecaaGreatDoor.M
/- The rounds, computed: what a call on known inputs comes to, found by evaluation. -/
set_option linter.all false
namespace Go.Proofs.YtibchilpaaiecaaGreatDoor.M
open Go.RowKit
def gcC (h : AH) (r : AV) (h' : AH) : Option (AV × AH) :=
  if h'.length ≤ h.length ∨ h.length < r.mr then some (r, h')
  else if (h'.take h.length).all (fun b => Nat.ble (mrB b) h.length) then some (r, h'.take h.length) else none
theorem gcC_ok {h h' : AH} {r : AV} {x : AV × AH} (hx : gcC h r h' = some x) : gc h r h' = some x := by
  unfold gcC at hx
  unfold gc
  by_cases hc : h'.length ≤ h.length ∨ h.length < r.mr
  · rw [if_pos hc] at hx ⊢; exact hx
  · rw [if_neg hc] at hx ⊢
    split at hx <;> cases hx
    rename_i hall
    rw [if_pos]
    intro i hi
    right
    have hlen : i < h'.length := by omega
    refine ⟨h'[i], by simp [hlen], ?_⟩
    have := List.all_eq_true.1 hall h'[i] (by
      rw [List.mem_iff_getElem?]
      exact ⟨i, by rw [List.getElem?_take, if_pos hi]; simp [hlen]⟩)
    exact Nat.le_of_ble_eq_true this
def binC (op : BinOp) (x y : AV) : Option AV :=
  match x, y, op with
  | .str a, .str b, .eql => some (.bool (a.data.toList == b.data.toList))
  | .str a, .str b, .neq => some (.bool (!(a.data.toList == b.data.toList)))
  | .str a, .str b, .lss => some (.bool (Op.bytesLess a.data.toList b.data.toList))
  | .str a, .str b, .leq => some (.bool (Op.bytesLess a.data.toList b.data.toList || a.data.toList == b.data.toList))
  | .str a, .str b, .gtr => some (.bool (!(Op.bytesLess a.data.toList b.data.toList || a.data.toList == b.data.toList)))
  | .str a, .str b, .geq => some (.bool (!Op.bytesLess a.data.toList b.data.toList))
  | x, y, op => binV op x y
theorem binC_eq (op : BinOp) (x y : AV) : binC op x y = binV op x y := by
  have ht : ∀ a : ByteArray, a.data.toList = a.toList := fun a => (Go.ByteArray.toList_eq a).symm
  unfold binC
  split <;> simp only [binV, ht]
def xopC (op : COp) (d : Option Nat) (ev : Opd → AV) (h : AH) : Option (Up × AH) :=
  match op with
  | .bin op x y => val d h (binC op (ev x) (ev y))
  | op => xop op d ev h
theorem xopC_eq (op : COp) (d : Option Nat) (ev : Opd → AV) (h : AH) : xopC op d ev h = xop op d ev h := by
  unfold xopC
  split
  · rw [binC_eq]; rfl
  · rfl
def finC (rs : List RV) (h0 : AH) : St → Option (AV × AH)
  | (.exit _, _, _) => none
  | (_, σ, h) => (retV h rs σ).bind fun vs => gcC h0 (oneOf vs) h
def callC (T : Tbl) (rec : Rec) (f : FuncId) (args : List AV) (h : AH) : Option (AV × AH) :=
  match T f with
  | some (.code cf) => (rec cf.body (args ++ List.replicate (cf.ntmps - args.length) undefA) h).bind (finC cf.res h)
  | some (.prim p) => p args h
  | _ => none
def effC (T : Tbl) (rec : Rec) (op : COp) (d : Option Nat) (σ : List AV) (h : AH) : Option (List AV × AH) :=
  match callOf op (evalO σ) with
  | some (f, args, false) => (callC T rec f args h).map fun r => (putA σ d r.1, r.2)
  | some (f, args, true) => if mrL args = 0 then (callC T rec f args []).bind (finP σ d h) else none
  | none => (xopC op d (evalO σ) h).map fun r => (putL σ r.1, r.2)
def opsC (T : Tbl) (rec : Rec) : List CO → List AV → AH → Option (List AV × AH)
  | [], σ, h => some (σ, h)
  | o :: r, σ, h => (effC T rec (effOp o σ) o.dst σ h).bind fun s => opsC T rec r s.1 s.2
def opsDC (T : Tbl) (rec : Rec) : List Nat → List (AH × AH) → List (CO × Bool) → List AV → AH → Option (List AV × AH)
  | S, E, [], σ, h => if S.isEmpty || E.isEmpty then some (σ, h) else none
  | S, E, p :: r, σ, h => (effC T rec (effOp p.1 σ) p.1.dst σ h).bind fun s => opsDC T rec (addS p σ S) (addE p h s.2 E) r s.1 s.2
def stepC (T : Tbl) (rec : Rec) : Rec
  | .skip, σ, h => some (.normal, σ, h)
  | .region ops, σ, h => (opsC T rec ops σ h).map fun s => (.normal, s)
  | .dregion ops, σ, h => (opsDC T rec [] [] ops σ h).map fun s => (.normal, s)
  | .seq a b, σ, h => (rec a σ h).bind fun r => match r.1 with | .normal => rec b r.2.1 r.2.2 | _ => some r
  | .cond c x y, σ, h => match evalO σ c with | .bool true => rec x σ h | .bool false => rec y σ h | _ => none
  | .block id c, σ, h => (rec c σ h).map (outB id)
  | .loop c, σ, h => (rec c σ h).bind fun r => match r.1 with | .normal => rec (.loop c) r.2.1 r.2.2 | _ => some r
  | .exit id, σ, h => some (.exit id, σ, h)
  | .ret, σ, h => some (.ret, σ, h)
  | .kill ws c, σ, h => rec c (kills ws σ) h
  | .both _ _, _, _ => none
  | .rsplit g p asg body, σ, h => rsS T (rec asg) (rec body) p σ h (evalO σ g)
def evC (T : Tbl) : Nat → Rec
  | 0 => fun _ _ _ => none
  | n + 1 => stepC T (evC T n)
section
variable {T : Tbl} {r1 r2 : Rec}
def Le (a b : Rec) : Prop := ∀ c σ h r, a c σ h = some r → b c σ h = some r
theorem callC_ok (hr : Le r1 r2) {f : FuncId} {args : List AV} {h : AH} {x : AV × AH} (hx : callC T r1 f args h = some x) : callF T r2 f args h = some x := by
  unfold callC at hx; unfold callF
  cases hT : T f with
  | none => rw [hT] at hx; exact hx
  | some d =>
    rw [hT] at hx
    cases d with
    | prim p => exact hx
    | split => exact hx
    | code cf =>
      simp only [Option.bind_eq_some_iff] at hx ⊢
      obtain ⟨s, h1, h2⟩ := hx
      refine ⟨s, hr _ _ _ _ h1, ?_⟩
      obtain ⟨e, σ, h'⟩ := s
      cases e <;> simp only [finC, finF, Option.bind_eq_some_iff] at h2 ⊢
      · obtain ⟨vs, q1, q2⟩ := h2; exact ⟨vs, q1, gcC_ok q2⟩
      · cases h2
      · obtain ⟨vs, q1, q2⟩ := h2; exact ⟨vs, q1, gcC_ok q2⟩
theorem effC_ok (hr : Le r1 r2) {op : COp} {d : Option Nat} {σ : List AV} {h : AH} {x : List AV × AH} (hx : effC T r1 op d σ h = some x) : xeff T r2 op d σ h = some x := by
  unfold effC at hx; unfold xeff
  cases hc : callOf op (evalO σ) with
  | none => rw [hc] at hx; simp only [xopC_eq] at hx; exact hx
  | some p =>
    rw [hc] at hx
    obtain ⟨f, args, pu⟩ := p
    cases pu
    · simp only [Option.map_eq_some_iff] at hx ⊢
      obtain ⟨y, q1, q2⟩ := hx; exact ⟨y, callC_ok hr q1, q2⟩
    · simp only at hx ⊢
      split at hx <;> try (cases hx; done)
      rename_i hm
      rw [if_pos hm]
      simp only [Option.bind_eq_some_iff] at hx ⊢
      obtain ⟨y, q1, q2⟩ := hx; exact ⟨y, callC_ok hr q1, q2⟩
theorem opsC_ok (hr : Le r1 r2) : ∀ {l : List CO} {σ : List AV} {h : AH} {x : List AV × AH}, opsC T r1 l σ h = some x → xops T r2 l σ h = some x
  | [], σ, h, x, hx => hx
  | o :: l, σ, h, x, hx => by
    simp only [opsC, xops, Option.bind_eq_some_iff] at hx ⊢
    obtain ⟨s, q1, q2⟩ := hx; exact ⟨s, effC_ok hr q1, opsC_ok hr q2⟩
theorem opsDC_ok (hr : Le r1 r2) : ∀ {l : List (CO × Bool)} {S : List Nat} {E : List (AH × AH)} {σ : List AV} {h : AH} {x : List AV × AH}, opsDC T r1 S E l σ h = some x → xopsD T r2 S E l σ h = some x
  | [], S, E, σ, h, x, hx => by
    simp only [opsDC, xopsD] at hx ⊢
    split at hx <;> cases hx
    rename_i hs
    rw [if_pos]
    intro e he id hid
    simp only [Bool.or_eq_true, List.isEmpty_iff] at hs
    rcases hs with rfl | rfl
    · cases hid
    · cases he
  | p :: l, S, E, σ, h, x, hx => by
    simp only [opsDC, xopsD, Option.bind_eq_some_iff] at hx ⊢
    obtain ⟨s, q1, q2⟩ := hx; exact ⟨s, effC_ok hr q1, opsDC_ok hr q2⟩
theorem rsV_le (hr : Le r1 r2) {asg body : CC} {p ps pp pv : Nat} {c : UInt8} {σ : List AV} {xs : List (List UInt8 × List UInt8)} {h : AH} {x : Ex × AH} (hx : rsV (r1 asg) (r1 body) p ps pp pv c σ xs h = some x) : rsV (r2 asg) (r2 body) p ps pp pv c σ xs h = some x :=
  mono_rsV asg body p ps pp pv c σ xs h r1 r2 hr x hx
theorem stepC_ok (hr : Le r1 r2) : Le (stepC T r1) (step T r2) := by
  intro c σ h r hx
  cases c with
  | skip => exact hx
  | region ops =>
    simp only [stepC, step, Option.map_eq_some_iff] at hx ⊢
    obtain ⟨s, q1, q2⟩ := hx; exact ⟨s, opsC_ok hr q1, q2⟩
  | dregion ops =>
    simp only [stepC, step, Option.map_eq_some_iff] at hx ⊢
    obtain ⟨s, q1, q2⟩ := hx; exact ⟨s, opsDC_ok hr q1, q2⟩
  | seq a b =>
    simp only [stepC, step, Option.bind_eq_some_iff] at hx ⊢
    obtain ⟨s, q1, q2⟩ := hx
    refine ⟨s, hr _ _ _ _ q1, ?_⟩
    obtain ⟨e, σ1, h1⟩ := s
    cases e <;> simp only at q2 ⊢ <;> first | exact hr _ _ _ _ q2 | exact q2
  | cond c a b =>
    simp only [stepC, step] at hx ⊢
    cases hc : evalO σ c <;> rw [hc] at hx <;> try (cases hx; done)
    rename_i v
    cases v <;> exact hr _ _ _ _ hx
  | block i c =>
    simp only [stepC, step, Option.map_eq_some_iff] at hx ⊢
    obtain ⟨s, q1, q2⟩ := hx; exact ⟨s, hr _ _ _ _ q1, q2⟩
  | loop c =>
    simp only [stepC, step, Option.bind_eq_some_iff] at hx ⊢
    obtain ⟨s, q1, q2⟩ := hx
    refine ⟨s, hr _ _ _ _ q1, ?_⟩
    obtain ⟨e, σ1, h1⟩ := s
    cases e <;> simp only at q2 ⊢ <;> first | exact hr _ _ _ _ q2 | exact q2
  | exit i => exact hx
  | ret => exact hx
  | kill ws c => exact hr _ _ _ _ hx
  | rsplit g p asg body => exact mono_rsS asg body p σ h (evalO σ g) r1 r2 hr r hx
  | both a b => cases hx
theorem evC_ok : ∀ n, Le (evC T n) (ev T n)
  | 0 => fun _ _ _ _ h => by cases h
  | n + 1 => stepC_ok (evC_ok n)
theorem run_of {n : Nat} {f : FuncId} {args : List AV} {h : AH} {x : AV × AH} (hx : callC T (evC T n) f args h = some x) : run T f args h = some x :=
  callC_ok (fun c σ h r hc => den_of (evC_ok n c σ h r hc)) hx
end
end Go.Proofs.YtibchilpaaiecaaGreatDoor.M
/- Contracts of the library's functions, taken in as what calls come to. -/
set_option linter.all false
namespace Go.Proofs.YtibchilpaaiecaaGreatDoor.M
open Go Go.RowKit Go.Sort
section
variable {P : Program}
theorem callW_lib {f : FuncId} {args : List AV} {h : AH} {r : AV} (hc : Callable P f) (hcl : r.cl = true)
    (hcall : ∀ (w0 : World) (g : Gh) (n : Nat → Nat) (w : World) (vs : List Value), VL g args vs → Inv w0 g h n w → Calls P f vs.toArray w fun e w' => ∃ u, e = .returned u ∧ (∀ g, VR g r u) ∧ Below w.heap.size w w')
    {K : AV → AH → Prop} (hK : K r h) : CallW P f args h K := by
  refine ⟨hc, fun w0 g n w vs hv hcl' hi => ?_, r, h, hK⟩
  refine (hcall w0 g n w vs hv hi).mono ?_
  rintro e w' ⟨u, rfl, hvr, hb⟩
  exact ⟨g, r, u, h, rfl, hK, Gh.le.refl g, fun B hB => ⟨hb.block B (hi.n_lt hB), fun _ => rfl⟩, hvr g, OV_cl hcl, (hi.grow hb).le fun B => by rw [tk_cl hcl]; omega⟩
theorem below_grow (w : World) (k : Nat) (os : Array Obj) : Below w.heap.size w (grow (w.drewN k) os) :=
  (below_drewN (Below.refl _ w) k).trans ⟨rfl, rfl, rfl, by simp [grow], fun j hj => by
    have hj' : j < (w.drewN k).heap.size := hj
    show ((w.drewN k).heap ++ os)[j]? = (w.drewN k).heap[j]?
    exact Array.getElem?_append_left hj'⟩
def itoaP : List AV → AH → Option (AV × AH)
  | [.int .i64 n], h => if -9223372036854775808 ≤ n ∧ n ≤ 9223372036854775807 then some (.str ⟨(Lib.itoa n).toArray⟩, h) else none
  | _, _ => none
theorem itoa_ok {f : FuncId} (hc : Callable P f) (tab : ∀ w0 w : World, GW w0 → Below w0.heap.size w0 w → Lib.TabIs P w "internal/strconv.uint64pow10" .u64 Lib.pow10Tab)
    (H : ∀ n : Int, -9223372036854775808 ≤ n → n ≤ 9223372036854775807 → ∀ w : World, Lib.TabIs P w "internal/strconv.uint64pow10" .u64 Lib.pow10Tab → Calls P f #[.int .i64 n] w fun e w' => e = .returned (.string ⟨(Lib.itoa n).toArray⟩) ∧ ∃ k os, w' = grow (w.drewN k) os) :
    OkDef P f (.prim itoaP) := by
  intro args h r h' hp K hK
  unfold itoaP at hp
  split at hp <;> try (cases hp; done)
  rename_i n
  split at hp <;> cases hp
  rename_i hn
  refine callW_lib hc rfl (fun w0 g m w vs hv hi => ?_) hK
  simp only [VL, VR] at hv
  obtain ⟨_, _, rfl, rfl, rfl⟩ := hv
  refine (H n hn.1 hn.2 w (tab w0 w hi.gw hi.below)).mono ?_
  rintro e w' ⟨rfl, k, os, rfl⟩
  exact ⟨_, rfl, fun g => rfl, below_grow w k os⟩
def atoiR (t : TypeId) (s : List UInt8) : AV :=
  match Lib.atoiAll s with
  | .ok v => .tup [.int .i64 v, .nili]
  | .range => .tup [.int .i64 (Lib.atoiSat s), .iface t .any]
  | _ => .tup [.int .i64 0, .iface t .any]
def atoiP (t : TypeId) : List AV → AH → Option (AV × AH)
  | [.str s], h => if Nat.ble s.size 281474976710656 then some (atoiR t s.data.toList, h) else none
  | _, _ => none
theorem atoi_ok {f : FuncId} {t eb : TypeId} (hc : Callable P f)
    (H1 : ∀ (s : ByteArray), s.size ≤ 9223372036854775806 → ∀ v, Lib.atoiAll s.data.toList = .ok v → ∀ w, Calls P f #[.string s] w fun e w' => e = .returned (.tuple #[.int .i64 v, .nilIface]) ∧ (w' = w ∨ ∃ x, w' = Lib.bytesWorld w eb x))
    (H2 : ∀ (s : ByteArray), s.size ≤ 281474976710656 → Lib.atoiAll s.data.toList = Lib.atoiAll [] → ∀ w0 w, GW w0 → Below w0.heap.size w0 w → Calls P f #[.string s] w fun e w' => ∃ N, e = .returned (.tuple #[.int .i64 0, .iface t (.pointer (some ⟨N, 0, none⟩))]) ∧ Below w.heap.size w w')
    (H3 : ∀ (s : ByteArray), s.size ≤ 281474976710656 → Lib.atoiAll s.data.toList = .range → ∀ w0 w, GW w0 → Below w0.heap.size w0 w → Calls P f #[.string s] w fun e w' => ∃ N, e = .returned (.tuple #[.int .i64 (Lib.atoiSat s.data.toList), .iface t (.pointer (some ⟨N, 0, none⟩))]) ∧ Below w.heap.size w w') :
    OkDef P f (.prim (atoiP t)) := by
  intro args h r h' hp K hK
  unfold atoiP at hp
  split at hp <;> try (cases hp; done)
  rename_i s
  split at hp <;> cases hp
  rename_i hn
  have hn' := Nat.le_of_ble_eq_true hn
  have hcl : (atoiR t s.data.toList).cl = true := by unfold atoiR; split <;> rfl
  refine callW_lib hc hcl (fun w0 g m w vs hv hi => ?_) hK
  simp only [VL, VR] at hv
  obtain ⟨_, _, rfl, rfl, rfl⟩ := hv
  unfold atoiR
  cases hr : Lib.atoiAll s.data.toList with
  | ok v =>
    refine (H1 s (by omega) v hr w).mono ?_
    rintro e w' ⟨rfl, hw⟩
    refine ⟨_, rfl, fun g => ⟨#[.int .i64 v, .nilIface], rfl, _, _, rfl, rfl, _, _, rfl, rfl, rfl⟩, ?_⟩
    rcases hw with rfl | ⟨x, rfl⟩
    · exact Below.refl _ _
    · exact Lib.bytesWorld_below w eb x
  | range =>
    refine (H3 s hn' hr w0 w hi.gw hi.below).mono ?_
    rintro e w' ⟨N, rfl, hb⟩
    exact ⟨_, rfl, fun g => ⟨#[.int .i64 _, .iface t (.pointer (some ⟨N, 0, none⟩))], rfl, _, _, rfl, rfl, _, _, rfl, ⟨_, rfl, trivial, rfl⟩, rfl⟩, hb⟩
  | _ =>
    refine (H2 s hn' hr w0 w hi.gw hi.below).mono ?_
    rintro e w' ⟨N, rfl, hb⟩
    exact ⟨_, rfl, fun g => ⟨#[.int .i64 0, .iface t (.pointer (some ⟨N, 0, none⟩))], rfl, _, _, rfl, rfl, _, _, rfl, ⟨_, rfl, trivial, rfl⟩, rfl⟩, hb⟩
def index1P : List AV → AH → Option (AV × AH)
  | [.str s, .str d], h => match d.data.toList with | [c] => some (.int .i64 (Lib.indexByte s.data.toList c), h) | _ => none
  | _, _ => none
theorem index1_ok {f : FuncId} (hc : Callable P f)
    (H : ∀ (s : ByteArray) (c : UInt8) (w : World), Calls P f #[.string s, .string ⟨#[c]⟩] w fun e w' => e = .returned (.int .i64 (Lib.indexByte s.data.toList c)) ∧ w' = w) : OkDef P f (.prim index1P) := by
  intro args h r h' hp K hK
  unfold index1P at hp
  split at hp <;> try (cases hp; done)
  rename_i s d
  split at hp <;> cases hp
  rename_i c hd
  refine callW_lib hc rfl (fun w0 g m w vs hv hi => ?_) hK
  simp only [VL, VR] at hv
  obtain ⟨_, _, rfl, rfl, _, _, rfl, rfl, rfl⟩ := hv
  have hd' : d = ⟨#[c]⟩ := by
    cases d; simp only at hd; congr; exact Array.ext' hd
  subst hd'
  refine (H s c w).mono ?_
  rintro e w' ⟨rfl, rfl⟩
  exact ⟨_, rfl, fun g => rfl, Below.refl _ _⟩
def decS : List (List AV) → Option (List ByteArray)
  | [] => some []
  | [.str x] :: r => (decS r).map (x :: ·)
  | _ => none
def joinB (xs : List ByteArray) (sep : ByteArray) : ByteArray := ⟨(Lib.join (xs.map (·.data.toList)) sep.data.toList).toArray⟩
def joinP : List AV → AH → Option (AV × AH)
  | [.sl _ es, .str sep], h => match decS es with
    | some xs => if xs.length ≤ 140737488355328 ∧ (Lib.join (xs.map (·.data.toList)) sep.data.toList).length ≤ 140737488355328 then some (.str (joinB xs sep), h) else none
    | none => none
  | _, _ => none
theorem decS_cells {g : Gh} {w : World} (hp : ∀ B o v, g.prot B o = some v → w.cell? ⟨B, o, none⟩ = some v) : ∀ {es : List (List AV)} {xs : List ByteArray} {B o : Nat}, decS es = some xs → PE g es B o →
    xs.length = es.length ∧ ∀ (j : Nat) x, xs[j]? = some x → w.cell? ⟨B, o + j, none⟩ = some (.string x)
  | [], xs, B, o, h, _ => by simp [decS] at h; subst h; simp
  | e :: r, xs, B, o, h, hq => by
    match e, h with
    | [], h => simp [decS] at h
    | _ :: _ :: _, h => simp [decS] at h
    | [a], h =>
      cases a <;> simp only [decS, Option.map_eq_some_iff, reduceCtorEq] at h
      rename_i s
      obtain ⟨ys, hy, rfl⟩ := h
      simp only [PE, PR, List.length_cons, List.length_nil] at hq
      obtain ⟨⟨⟨u, hu, hv, _⟩, _⟩, hr⟩ := hq
      simp only [VR] at hv
      subst hv
      obtain ⟨h1, h2⟩ := decS_cells hp hy hr
      refine ⟨by simp [h1], fun j x hj => ?_⟩
      cases j with
      | zero => simp at hj; subst hj; exact hp _ _ _ hu
      | succ j =>
        have := h2 j x (by simpa using hj)
        rw [show o + (j + 1) = o + (0 + 1) + j by omega]; exact this
theorem join_ok {f : FuncId} (hc : Callable P f)
    (H0 : ∀ (a : Option Addr) (c : Nat) (sep : ByteArray) (w : World), Calls P f #[.slice a 0 c, .string sep] w fun e w' => e = .returned (.string ⟨#[]⟩) ∧ w' = w)
    (H : ∀ (bk o c : Nat) (xs : List ByteArray) (sep : ByteArray) (w : World), (∀ (j : Nat) x, xs[j]? = some x → w.cell? ⟨bk, o + j, none⟩ = some (.string x)) → bk < w.heap.size → xs.length ≤ 140737488355328 → xs.length ≤ c →
      (Lib.join (xs.map (·.data.toList)) sep.data.toList).length ≤ 140737488355328 → Calls P f #[.slice (some ⟨bk, o, none⟩) xs.length c, .string sep] w fun e w' => e = .returned (.string ⟨(Lib.join (xs.map (·.data.toList)) sep.data.toList).toArray⟩) ∧ Below w.heap.size w w') :
    OkDef P f (.prim joinP) := by
  intro args h r h' hp K hK
  unfold joinP at hp
  split at hp <;> try (cases hp; done)
  rename_i m es sep
  split at hp <;> try (cases hp; done)
  rename_i xs hxs
  split at hp <;> cases hp
  rename_i hlim
  refine callW_lib hc rfl (fun w0 g n w vs hv hi => ?_) hK
  simp only [VL, VR] at hv
  obtain ⟨_, _, rfl, hsl, _, _, rfl, rfl, rfl⟩ := hv
  rcases hsl with ⟨rfl, _, a, rfl⟩ | ⟨B, o, cap, rfl, h2, _, _, _, hpe⟩
  · simp [decS] at hxs; subst hxs
    refine (H0 a 0 sep w).mono ?_
    rintro e w' ⟨rfl, rfl⟩
    exact ⟨_, rfl, fun g => rfl, Below.refl _ _⟩
  · obtain ⟨h3, h4⟩ := decS_cells hi.prot hxs hpe
    rw [← h3] at h2 ⊢
    cases hx : xs with
    | nil =>
      refine (H0 _ cap sep w).mono ?_
      rintro e w' ⟨rfl, rfl⟩
      exact ⟨_, rfl, fun g => rfl, Below.refl _ _⟩
    | cons x ys =>
      rw [hx] at h2 h4 hlim
      have hB : B < w.heap.size := by
        have := h4 0 x rfl
        rcases Nat.lt_or_ge B w.heap.size with hl | hl
        · exact hl
        · simp [World.cell?, Array.getElem?_eq_none hl] at this
      refine (H B o cap (x :: ys) sep w h4 hB hlim.1 h2 hlim.2).mono ?_
      rintro e w' ⟨rfl, hb⟩
      exact ⟨_, rfl, fun g => rfl, hb⟩
def FCh (tf : TypeId) (w : World) : Value → List Int → Prop
  | v, [] => v = .nilIface
  | v, c :: l => ∃ B o b, v = .iface tf (.pointer (some ⟨B, o, none⟩)) ∧ w.cell? ⟨B, o + 1, none⟩ = some (.int .i64 c) ∧ w.cell? ⟨B, o + 2, none⟩ = some b ∧ FCh tf w b l
def chA (tf : TypeId) : Nat → AV → Option (List Int)
  | 0, _ => none
  | k + 1, v => match v with
    | .nili => some []
    | .iface t (.ref [_, .int .i64 c, b]) => if t = tf then (chA tf k b).map (c :: ·) else none
    | _ => none
theorem chA_FCh {tf : TypeId} {g : Gh} {w : World} (hp : ∀ B o v, g.prot B o = some v → w.cell? ⟨B, o, none⟩ = some v) : ∀ {k : Nat} {v : AV} {l : List Int} {u : Value}, chA tf k v = some l → VR g v u → FCh tf w u l
  | 0, v, l, u, h, _ => by simp [chA] at h
  | k + 1, v, l, u, h, hv => by
    unfold chA at h
    split at h <;> try (cases h; done)
    · cases h; simpa only [VR, FCh] using hv
    · rename_i t p c b
      split at h <;> try (cases h; done)
      rename_i ht; subst ht
      simp only [Option.map_eq_some_iff] at h
      obtain ⟨l', hl, rfl⟩ := h
      simp only [VR, PR] at hv
      obtain ⟨_, rfl, ⟨B, o, rfl, _, ⟨u1, h1, rfl, _⟩, ⟨u2, h2, h3, _⟩, _⟩, _⟩ := hv
      exact ⟨B, o, u2, rfl, hp _ _ _ h1, hp _ _ _ h2, chA_FCh hp hl h3⟩
def errIsP (tf te : TypeId) : List AV → AH → Option (AV × AH)
  | [v, .iface t (.int .i64 e)], h => if t = te then (match chA tf 9 v with | some l => some (.bool (l.any (· == e)), h) | none => none) else none
  | _, _ => none
theorem errIs_ok {f : FuncId} {tf te : TypeId} (hc : Callable P f)
    (H : ∀ (l : List Int) (e : Int) (v : Value) (w : World), FCh tf w v l → Calls P f #[v, .iface te (.int .i64 e)] w fun x w' => x = .returned (.bool (l.any (· == e))) ∧ Below w.heap.size w w') :
    OkDef P f (.prim (errIsP tf te)) := by
  intro args h r h' hp K hK
  unfold errIsP at hp
  split at hp <;> try (cases hp; done)
  rename_i v t e
  split at hp <;> try (cases hp; done)
  rename_i ht; subst ht
  split at hp <;> cases hp
  rename_i l hl
  refine callW_lib hc rfl (fun w0 g n w vs hv hi => ?_) hK
  simp only [VL, VR] at hv
  obtain ⟨u, _, rfl, hu, _, _, rfl, ⟨_, rfl, rfl, _⟩, rfl⟩ := hv
  refine (H l e u w (chA_FCh hi.prot hl hu)).mono ?_
  rintro x w' ⟨rfl, hb⟩
  exact ⟨_, rfl, fun g => rfl, hb⟩
end
end Go.Proofs.YtibchilpaaiecaaGreatDoor.M
