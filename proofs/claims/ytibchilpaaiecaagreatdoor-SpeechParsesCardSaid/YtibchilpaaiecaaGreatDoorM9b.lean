/- Literals of structs and slices, comparisons with nil, bools, minimum and maximum. -/
import Derived.Test.YtibchilpaaiecaaGreatDoorM8
import Derived.Great.BuildSlice
set_option linter.unusedVariables false
set_option linter.unusedSimpArgs false
namespace Go.Proofs.YtibchilpaaiecaaGreatDoor.M
open Go.RowKit
theorem nr : ∀ {a b : List AV}, clL a = true → clL b = true → clL (a ++ b) = true
 | [], b, _, h => by simpa using h
 | c :: cs, b, h, k => by simp only [clL, Bool.and_eq_true] at h; simp only [List.cons_append, clL, Bool.and_eq_true]; exact ⟨h.1, nr h.2 k⟩
theorem wq : ∀ {a : List AV} (n : Nat), clL a = true → clL (a.take n) = true
 | [], n, h => by simpa using h
 | c :: cs, 0, h => rfl
 | c :: cs, n + 1, h => by simp only [clL, Bool.and_eq_true] at h; simp only [List.take_succ_cons, clL, Bool.and_eq_true]; exact ⟨h.1, wq n h.2⟩
theorem wu : ∀ {a : List AV} (n : Nat), clL a = true → clL (a.drop n) = true
 | [], n, h => by simpa using h
 | c :: cs, 0, h => h
 | c :: cs, n + 1, h => by simp only [clL, Bool.and_eq_true] at h; exact wu n h.2
theorem FE {a b : List AV} (o : Nat) (h : clL a = true) (k : clL b = true) : clL (ovl a o b) = true := nr (nr (wq _ h) k) (wu _ h)
theorem tz {v : AV} (h : v.cl = true) : clL v.cells = true := by
 cases v <;> simp_all [AV.cells, clL, AV.cl]
theorem ns : ∀ {cs : List AV}, clL cs = true → ∀ c, c ∈ cs → c.cl = true
 | [], _, c, hc => by simp at hc
 | d :: ds, h, c, hc => by
  simp only [clL, Bool.and_eq_true] at h
  rcases List.mem_cons.1 hc with rfl | hc
  ·exact h.1
  ·exact ns h.2 c hc
theorem CE {α : Type} (l : List α) (o : Nat) (c : α) (vs : List α) (h : o + (vs.length + 1) ≤ l.length) : ovl l o (c :: vs) = ovl (l.set o c) (o + 1) vs := by
 unfold ovl
 have ho : o < l.length := by omega
 have e1 : (l.set o c).take (o + 1) = l.take o ++ [c] := by
  rw [List.take_add_one, List.take_set_of_le (Nat.le_refl _), List.getElem?_set_self ho]; rfl
 have e2 : (l.set o c).drop (o + 1 + vs.length) = l.drop (o + (vs.length + 1)) := by
  rw [List.drop_set_of_lt (by omega)]; congr 1; omega
 rw [e1, e2]
 simp
theorem wv (off : Nat) : ∀ (l : List Value) (k : Nat) (cs : Array Value), off + k + l.length ≤ cs.size →
  ((l.zipIdx k).foldl (fun (cs : Array Value) p => cs.setIfInBounds (off + p.2) p.1) cs).toList = ovl cs.toList (off + k) l
 | [], k, cs, h => by simp [ovl]
 | c :: l, k, cs, h => by
  simp only [List.length_cons] at h
  rw [List.zipIdx_cons, List.foldl_cons, wv off l (k + 1) _ (by simp; omega), CE _ _ _ _ (by simp; omega)]
  simp [Nat.add_assoc]
theorem tA (off : Nat) (l : Array Value) (cs : Array Value) (h : off + l.size ≤ cs.size) :
  (l.zipIdx.foldl (fun cs (c, j) => cs.setIfInBounds (off + j) c) cs).toList = ovl cs.toList off l.toList := by
 have := wv off l.toList 0 cs (by simpa using h)
 rw [← Array.foldl_toList, Array.toList_zipIdx]
 simpa using this
def nt : List AV → List (Nat × Nat × AV) → Option (List AV)
 | cs, [] => some cs
 | cs, (off, sz, v) :: r => if v.cells.length = sz ∧ off + sz ≤ cs.length ∧ aM v.cells = true then nt (ovl cs off v.cells) r else none
def PRel (g : Gh) (place : Nat → Option (Nat × Nat)) : List (Nat × Nat × AV) → List (Nat × Value) → Prop
 | [], qs => qs = []
 | (off, sz, v) :: ps, qs => ∃ i u qs', qs = (i, u) :: qs' ∧ place i = some (off, sz) ∧ VR g v u ∧ v.cl = true ∧ PRel g place ps qs'
theorem nu {g : Gh} {place : Nat → Option (Nat × Nat)} : ∀ {ps : List (Nat × Nat × AV)} {qs : List (Nat × Value)} {cs ds : List AV} {us : Array Value}, PRel g place ps qs → VL g cs us.toList → clL cs = true → aM cs = true →
  nt cs ps = some ds → ∃ vs, Instr.fill place us qs = some vs ∧ VL g ds vs.toList ∧ clL ds = true ∧ aM ds = true
 | [], qs, cs, ds, us, hp, hv, hc, ho, hf => by
  simp only [PRel] at hp; subst hp; simp only [nt, Option.some.injEq] at hf; subst hf; exact ⟨us, rfl, hv, hc, ho⟩
 | (off, sz, v) :: ps, qs, cs, ds, us, hp, hv, hc, ho, hf => by
  simp only [PRel] at hp
  obtain ⟨i, u, qs', rfl, hpl, hvr, hcl, hr⟩ := hp
  simp only [nt] at hf
  split at hf <;> try (cases hf; done)
  rename_i hcond
  obtain ⟨h1, h2, h3⟩ := hcond
  have hcv := kS hvr h3
  have hlen := VL.length hcv
  have hl2 := VL.length hv
  rw [Array.length_toList] at hlen hl2
  have hfold := tA off u.cells us (by omega)
  simp only [Instr.fill, hpl]
  rw [if_neg (by simp; omega)]
  exact nu hr (by rw [hfold]; exact zc hv hcv off) (FE _ hc (tz hcl)) (rv ho h3 off) hf
theorem qD (S : Nat) : ∀ (vs : List Value) (k : Nat) (us : Array Value), (∀ v ∈ vs, v.cells.size = S) → us.size = (k + vs.length) * S →
  ∃ ds, Instr.fill (fun i => some (i * S, S)) us ((vs.zipIdx k).map fun p => (p.2, p.1)) = some ds ∧ ds.toList = us.toList.take (k * S) ++ (vs.map fun v => v.cells.toList).flatten
 | [], k, us, hv, hu => ⟨us, by simp [Instr.fill], by simp at hu; simp [List.take_of_length_le, hu]⟩
 | v :: vs, k, us, hv, hu => by
  have hvs : v.cells.size = S := hv v (by simp)
  simp only [List.length_cons] at hu
  have hk : k * S + S ≤ us.size := by rw [hu, ← Nat.succ_mul]; exact Nat.mul_le_mul_right _ (by omega)
  have hfold := tA (k * S) v.cells us (by omega)
  obtain ⟨ds, h1, h2⟩ := qD S vs (k + 1) (v.cells.zipIdx.foldl (fun cs (c, j) => cs.setIfInBounds (k * S + j) c) us) (fun x hx => hv x (by simp [hx])) (by
   have := congrArg List.length hfold
   rw [Array.length_toList] at this
   rw [this]; unfold ovl; simp only [List.length_append, List.length_take, List.length_drop, Array.length_toList, hvs]
   have : (k + 1 + vs.length) * S = (k + (vs.length + 1)) * S := by congr 1; omega
   omega)
  refine ⟨ds, ?_, ?_⟩
  ·rw [List.zipIdx_cons, List.map_cons]
   simp only [Instr.fill]
   rw [if_neg (by simp; omega)]
   exact h1
  ·rw [h2, hfold]
   unfold ovl
   have e : (k + 1) * S = k * S + S := by rw [Nat.succ_mul]
   rw [e, List.take_left' (by simp [hvs]; omega)]
   simp
theorem mw {α : Type} : ∀ (l : List (Nat × α)) (k n : Nat), l.map (·.1) = List.range' k n → l = ((l.map (·.2)).zipIdx k).map fun p => (p.2, p.1)
 | [], k, n, h => by simp
 | (i, x) :: l, k, n, h => by
  cases n with
  | zero => simp at h
  | succ n =>
   simp only [List.map_cons, List.range'_succ, List.cons.injEq] at h
   obtain ⟨rfl, h⟩ := h
   simp only [List.map_cons, List.zipIdx_cons, List.cons.injEq, true_and]
   exact mw l _ n h
section
variable {P : Program} {w0 w : World} {ds : List Deferred} {g : Gh} {h : AH} {n : Nat → Nat} {σ : List AV} {a : Act}
def shP (ev : Opd → AV) : List (Nat × Nat × Opd) → List (Nat × Nat × AV)
 | [] => []
 | (o, s, x) :: r => (o, s, (ev x).sh) :: shP ev r
def rC (z : List AV) (K : AV → Prop) (ps : List (Nat × Nat × AV)) : Prop := match nt z ps with | some cs => K (.agg cs) | none => False
def iR (place : Nat → Option (Nat × Nat)) : List (Nat × Operand) → Option (List (Nat × Nat × Opd))
 | [] => some []
 | (i, x) :: r => match place i, aB x, iR place r with | some (o, s), some y, some l => some ((o, s, y) :: l) | _, _, _ => none
def my (P : Program) (t : TypeId) (parts : List (Nat × Operand)) : Option (List AV × List (Nat × Nat × Opd)) :=
 match P.info? t, P.underlying t with
 | some it, some (.array _ e) => match it.zero, P.info? e with
  | some z, some ie => match litC z, iR (fun i => some (i * ie.size, ie.size)) parts with | some zs, some ps => some (zs, ps) | _, _ => none
  | _, _ => none
 | some it, some (.struct fields) => match it.zero, fields.toList.mapM (fun f => (P.info? f.type).map fun i => (f.offset, i.size)) with
  | some z, some places => match litC z, iR (places.toArray[·]?) parts with | some zs, some ps => some (zs, ps) | _, _ => none
  | _, _ => none
 | _, _ => none
theorem iK {place : Nat → Option (Nat × Nat)} (hg : Gl g) (hv : VL g σ a.tmps.toList) : ∀ {l : List (Nat × Operand)} {ps : List (Nat × Nat × Opd)}, iR place l = some ps →
  PRel g place (shP (ag σ) ps) (l.map fun p => (p.1, a.eval p.2))
 | [], ps, h => by simp only [iR, Option.some.injEq] at h; subst h; simp [shP, PRel]
 | (i, x) :: r, ps, h => by
  simp only [iR] at h
  split at h <;> cases h
  rename_i o s y l h1 h2 h3
  exact ⟨i, a.eval x, _, rfl, h1, VR.sh _ _ (ai hg hv h2), la _, iK hg hv h3⟩
theorem oQ {t : TypeId} {parts : List (Nat × Operand)} {zs : List AV} {ps : List (Nat × Nat × Opd)} {ds : List AV} (hg : Gl g) (hv : VL g σ a.tmps.toList) (hc : my P t parts = some (zs, ps)) (hf : nt zs (shP (ag σ) ps) = some ds) :
  ∃ vs, P.built t (parts.map fun p => (p.1, a.eval p.2)) = some vs ∧ VL g ds vs.toList ∧ clL ds = true ∧ aM ds = true := by
 unfold my at hc
 split at hc
 ·rename_i it len e h1 h2
  split at hc <;> try (cases hc; done)
  rename_i z ie h3 h4
  split at hc <;> cases hc
  rename_i h5 h6
  obtain ⟨z1, z2, z3⟩ := oO (g := g) h5
  obtain ⟨vs, q1, q2⟩ := nu (iK hg hv h6) z1 z2 z3 hf
  exact ⟨vs, by simp only [Program.built, h1, h2, h3, h4]; exact q1, q2⟩
 ·rename_i it fields h1 h2
  split at hc <;> try (cases hc; done)
  rename_i z places h3 h4
  split at hc <;> cases hc
  rename_i h5 h6
  obtain ⟨z1, z2, z3⟩ := oO (g := g) h5
  obtain ⟨vs, q1, q2⟩ := nu (iK hg hv h6) z1 z2 z3 hf
  exact ⟨vs, by simp only [Program.built, h1, h2, h3, h4]; exact q1, q2⟩
 ·cases hc
theorem vp {o : Oper} {K : List AV → AH → Prop} {Q : Exit → Act → World → Prop} {t : TypeId} {parts : Array (Nat × Operand)} {zs : List AV} {ps : List (Nat × Nat × Opd)} (hop : o.op = .build t parts) (hc : my P t parts.toList = some (zs, ps))
  (hs : SR ds w0 g n σ h a w) (hk : rC zs (fun v => K (putA σ o.dst v) h) (shP (ag σ) ps)) : o.wp P a w (bI ds w0 g n w K) Q := by
 unfold rC at hk
 split at hk <;> try (exact hk.elim)
 rename_i ds hds
 obtain ⟨vs, h1, h2, h3, h4⟩ := oQ hs.inv.gl hs.vl hc hds
 refine eF hs (v := .agg ds) (u := .agg vs) ?_ ⟨vs, rfl, h2, h4⟩ (by simpa [AV.cl] using h3) hk
 have hr := run_build (P := P) w t (parts.map fun p => (p.1, a.eval p.2)) vs (by simpa using h1)
 simp [execOp, hop, hr]
def wy (S : Nat) (vs : List AV) : Prop := ∀ v ∈ vs, v.cells.length = S ∧ aM v.cells = true
def vq (tok : Bool) (vs : List AV) : AV := .sl (if tok then .own else .ex) (vs.map AV.cells)
def nv (P : Program) (t : TypeId) (len : Nat) (parts : List (Nat × Operand)) : Option (Nat × List Opd) :=
 match P.underlying t with
 | some (.slice e) => match P.info? e with
  | some ie => match ie.zero with
   | some z => if parts.map (·.1) = List.range' 0 len ∧ 0 < ie.size ∧ len * ie.size ≤ 2 ^ 24 then (match (parts.map (·.2)).mapM aB with | some l => some (ie.size, l) | none => none) else none
   | none => none
  | none => none
 | _ => none
theorem vr {g' : Gh} {B : Nat} : ∀ {vs : List AV} {us : List Value} {o : Nat}, VL g vs us → g.le g' → (∀ v ∈ vs, aM v.cells = true ∧ v.cl = true) →
  (∀ j u, (us.map fun v => v.cells.toList).flatten[j]? = some u → g'.prot B (o + j) = some u) → PE g' (vs.map AV.cells) B o
 | [], us, o, hv, hg, h1, hp => by simp [PE]
 | v :: vs, us, o, hv, hg, h1, hp => by
  simp only [VL] at hv
  obtain ⟨u, us, rfl, k1, k2⟩ := hv
  obtain ⟨p1, p2⟩ := h1 v (by simp)
  have hc := kS k1 p1
  have hl := VL.length hc
  simp only [List.map_cons, List.flatten_cons] at hp
  refine ⟨PR.mk fun i c hi => ?_, vr k2 hg (fun x hx => h1 x (by simp [hx])) fun j x hj => ?_⟩
  ·obtain ⟨x, hx, hr⟩ := VL.get hc hi
   refine ⟨x, hp i x ?_, VR.mono hg _ _ hr, ns (tz p2) c (List.mem_of_getElem? hi), hY p1 hi⟩
   rw [List.getElem?_append_left (List.getElem?_eq_some_iff.1 hx).1]; exact hx
  ·have := hp (u.cells.toList.length + j) x (by rw [List.getElem?_append_right (by omega)]; simpa using hj)
   rw [← hl]; rw [← Nat.add_assoc] at this; exact this
theorem wz {α : Type} {S : Nat} : ∀ (l : List (List α)), (∀ x ∈ l, x.length = S) → l.flatten.length = l.length * S
 | [], h => by simp
 | x :: l, h => by
  simp only [List.flatten_cons, List.length_append, List.length_cons, Nat.succ_mul]
  rw [wz l fun y hy => h y (by simp [hy]), h x (by simp)]; omega
theorem tB (σ : List AV) : ∀ l : List Opd, clL (l.map fun x => (ag σ x).sh) = true
 | [] => rfl
 | x :: l => by simp only [List.map_cons, clL, Bool.and_eq_true]; exact ⟨la _, tB σ l⟩
theorem tC {o : Oper} {K : List AV → AH → Prop} {Q : Exit → Act → World → Prop} {t : TypeId} {len S : Nat} {parts : Array (Nat × Operand)} {l : List Opd} {tok : Bool} (hop : o.op = .buildSlice t len parts) (hc : nv P t len parts.toList = some (S, l))
  (hs : SR ds w0 g n σ h a w) (htok : tok = true → l ≠ []) (hok : wy S (l.map fun x => (ag σ x).sh)) (hK : K (putA σ o.dst (vq tok (l.map fun x => (ag σ x).sh))) h) : o.wp P a w (bI ds w0 g n w K) Q := by
 unfold nv at hc
 split at hc <;> try (cases hc; done)
 rename_i e ht
 split at hc <;> try (cases hc; done)
 rename_i ie hi
 split at hc <;> try (cases hc; done)
 rename_i z hz
 split at hc <;> try (cases hc; done)
 rename_i hcond
 obtain ⟨hidx, hS, hbig⟩ := hcond
 split at hc <;> cases hc
 rename_i hl
 generalize hvs : l.map (fun x => (ag σ x).sh) = vs at hok hK
 generalize hus : (parts.toList.map (·.2)).map a.eval = us
 have hcl : clL vs = true := by rw [← hvs]; exact tB σ l
 have hvl : VL g vs us := by
  have key : ∀ (q : List Operand) (q' : List Opd), q.mapM aB = some q' → VL g (q'.map fun x => (ag σ x).sh) (q.map a.eval) := by
   intro q
   induction q with
   | nil => intro q' hq; simp at hq; subst hq; simp [VL]
   | cons x q ih =>
    intro q' hq
    simp only [List.mapM_cons, Option.bind_eq_bind, Option.bind_eq_some_iff, Option.pure_def, Option.some.injEq] at hq
    obtain ⟨y, hy, q'', hq'', rfl⟩ := hq
    exact ⟨a.eval x, _, rfl, VR.sh _ _ (ai hs.inv.gl hs.vl hy), ih q'' hq''⟩
  rw [← hvs, ← hus]; exact key _ _ hl
 have hlen : us.length = len := by
  have := congrArg List.length hidx
  rw [← hus]; simpa using this
 have hvlen := VL.length hvl
 have husz : ∀ u ∈ us, u.cells.size = ie.size := by
  intro u hu
  obtain ⟨i, hi'⟩ := List.getElem?_of_mem hu
  have hil : i < vs.length := by have := (List.getElem?_eq_some_iff.1 hi').1; omega
  obtain ⟨u', hu', hr⟩ := VL.get hvl (i := i) (v := vs[i]) (by simp [hil])
  rw [hi'] at hu'; cases hu'
  obtain ⟨k1, k2⟩ := hok vs[i] (by simp)
  have := VL.length (kS hr k2)
  rw [Array.length_toList] at this; omega
 have hparts : (parts.map fun p => (p.1, a.eval p.2)).toList = (us.zipIdx 0).map fun p => (p.2, p.1) := by
  have h1 := mw _ _ _ hidx
  rw [Array.toList_map]
  generalize parts.toList.map (·.2) = qs at h1 hus
  rw [h1, ← hus, List.zipIdx_map, List.map_map, List.map_map]
  congr 1
 have hflen : (us.map fun v => v.cells.toList).flatten.length = len * ie.size := by
  rw [wz (S := ie.size) _ (by intro x hx; obtain ⟨v, hv, rfl⟩ := List.mem_map.1 hx; simpa using husz v hv), List.length_map, hlen]
 obtain ⟨ds, hrun, hds⟩ : ∃ ds, (Instr.buildSlice t len (parts.map fun p => (p.1, a.eval p.2))).run P w = .ok (.slice (some ⟨w.heap.size, 0, none⟩) len len) (w.alloc (.cells ds e)) ∧ ds.toList = (us.map fun v => v.cells.toList).flatten := by
  obtain ⟨ds, h1, h2⟩ := qD ie.size us 0 ((Array.range (len * ie.size)).map (z.cells[· % z.cells.size]!)) husz (by simp [hlen])
  by_cases h0 : len * ie.size = 0
  ·have hl0 : len = 0 := by rcases Nat.mul_eq_zero.1 h0 with h | h <;> omega
   have hu0 : us = [] := List.eq_nil_of_length_eq_zero (by omega)
   rw [hu0] at hparts
   have hp0 : (parts.map fun p => (p.1, a.eval p.2)) = #[] := by apply Array.ext'; simpa using hparts
   refine ⟨#[], ?_, by simp [hu0]⟩
   rw [hp0, hl0]
   simp [Instr.buildSlice, run_underlying ht, sizeOf, typeInfo, hi, Instr.fill, newRow, show Array.range 0 = #[] from rfl]
  ·exact ⟨ds, run_buildSlice w t e len _ ds ie z ht hi hz (by omega) h0 (by rw [hparts]; exact h1), by rw [h2]; simp⟩
 have hfl : (us.map fun v => v.cells.toList).flatten.length = ds.size := by rw [← hds, Array.length_toList]
 have hr : (execOp a.eval o).run P w = .ok (.value (.slice (some ⟨w.heap.size, 0, none⟩) len len)) (w.alloc (.cells ds e)) := by simp [execOp, hop, hrun]
 have helems : ∀ q ∈ vs.map AV.cells, q.length = ie.size := by intro q hq; obtain ⟨v, hv, rfl⟩ := List.mem_map.1 hq; exact (hok v hv).1
 have huni : Uni (vs.map AV.cells) := by
  intro q hq
  have h1 := helems q hq
  cases e' : vs.map AV.cells with
  | nil => rw [e'] at hq; simp at hq
  | cons y ys => rw [h1]; exact (helems y (by rw [e']; simp)).symm
 have hmem : ∀ v ∈ vs, aM v.cells = true ∧ v.cl = true := fun v hv => ⟨(hok v hv).2, ns hcl v hv⟩
 have hall : ds.toList.take ds.size = ds.toList := by rw [List.take_of_length_le (by simp)]
 cases tok with
 | false =>
  refine j7 (w' := w.alloc (.cells ds e)) (u := .slice (some ⟨w.heap.size, 0, none⟩) len len) (vs := ds.toList) hs hr rfl rfl rfl (by simp) (fun j hj => dJ w _ hj) (fun j v hj => by rw [World.cell?_alloc_new]; simpa using hj) ?_ rfl hK
  simp only [vq, VR]
  exact .inr ⟨w.heap.size, 0, len, by simp [← hvlen, hlen], by simp; omega, fun _ => by simp; omega, fun hc => (by cases hc), huni, vr hvl (Gh.le_addProt fun p _ => hs.inv.prot_new (Nat.le_refl _) p) hmem fun j u hj => Gh.addProt_at (by rw [hds]; exact hj)⟩
 | true =>
  have hne : vs ≠ [] := by rw [← hvs]; simpa using htok rfl
  have hvpos : 0 < vs.length := List.length_pos_iff.2 hne
  have hdpos : 0 < ds.size := by rw [← hfl, hflen]; exact Nat.mul_pos (by omega) hS
  obtain ⟨a1, hle, a3, a4⟩ := hs.inv.allocRow ds e ds.size (Nat.le_refl _)
  have a5 := hs.inv.allocRowTok ds e ds.size (Nat.le_refl _) hdpos
  rw [hall] at a1 hle a3 a4 a5
  have hhz : hsz (vs.map AV.cells) = ie.size := by
   cases e' : vs with
   | nil => exact absurd e' hne
   | cons y ys => exact helems _ (by rw [e']; simp)
  have hel : elen (vs.map AV.cells) = ds.size := by rw [mn _ ie.size helems, List.length_map, ← hvlen, hlen, ← hflen, hfl]
  have hVR : VR (g.addProt w.heap.size 0 ds.toList) (.sl .own (vs.map AV.cells)) (.slice (some ⟨w.heap.size, 0, none⟩) len len) := by
   simp only [VR]
   exact .inr ⟨w.heap.size, 0, len, by simp [← hvlen, hlen], by simp; omega, fun hc => (by cases hc), fun _ => by omega, huni, vr hvl hle hmem fun j u hj => Gh.addProt_at (by rw [hds]; exact hj)⟩
  have hOV : OV w0 (g.addProt w.heap.size 0 ds.toList) (w.alloc (.cells ds e)) (.sl .own (vs.map AV.cells)) (.slice (some ⟨w.heap.size, 0, none⟩) len len) := by
   simp only [OV]
   refine ⟨hs.inv.below.size, fun p hp' => ?_, ds, e, heap_alloc_new w _, ?_⟩
   ·simp only [Nat.zero_add, hel] at hp'
    rw [Gh.addProt_other (by simp; omega)]
    exact hs.inv.prot_new (Nat.le_refl _) p
   ·have : len - (vs.map AV.cells).length = 0 := by simp; omega
    rw [this, hel]; omega
  refine fx hr hle (a3.le fun b => by omega) (SR.step (σ := σ) (n := n) (h := h) (w := w) (g := g) hs o.dst (VL.mono hle _ _ hs.vl) (OVL.alloc hs.inv _ a4 hs.vl hs.ov) hVR hOV ?_) hK
  refine a5.le fun b => ?_
  by_cases hwb : w.heap.size = b
  ·have : tk (.sl .own (vs.map AV.cells)) (.slice (some ⟨w.heap.size, 0, none⟩) len len) b = 1 := by simp [tk, hwb]
   simp only [if_pos hwb]; omega
  ·have : tk (.sl .own (vs.map AV.cells)) (.slice (some ⟨w.heap.size, 0, none⟩) len len) b = 0 := by simp [tk, hwb]
   omega
theorem Inv.chgTok (hi : Inv w0 g h n w) {n1 : Nat → Nat} {B : Nat} {w' : World} (hn : ∀ b, n1 b + (if B = b then 1 else 0) ≤ n b) (hpq : ∃ o u, g.prot B o = some u) (hB : w0.heap.size ≤ B) (hos : w'.os = w.os) (htp : w'.tape = w.tape) (hout : w'.output = w.output) (hsz : w'.heap.size = w.heap.size)
  (hold : ∀ j, j ≠ B → w'.heap[j]? = w.heap[j]?) (hcell : ∀ p v, w.cell? ⟨B, p, none⟩ = some v → w'.cell? ⟨B, p, none⟩ = some v) :
  Inv w0 g h n1 w' ∧ Keep n1 g w g w' ∧ (∀ (cs : List AV) (us : List Value), (∀ b, tkL cs us b ≤ n1 b) → OVL w0 g w cs us → OVL w0 g w' cs us) := by
 obtain ⟨bv, e1, e2, e3⟩ := hi.rest
 have hn1 : n1 B = 0 := by have := e3 B; have := hn B; simp at this; omega
 have hBt : tkBs h bv B = 0 := by have := e3 B; have := hn B; simp at this; omega
 have hnbox : ∀ i b, g.bx i = some b → (∃ y, h[i]? = some y ∧ y ≠ .dead) → b ≠ B := by
  rintro i b hb ⟨y, hy, hd⟩ rfl
  exact (hi.prot_ok hpq).2 i y hy hd hb
 refine ⟨⟨hi.gw, hi.gl, hi.below.trans ⟨hos, htp, hout, by omega, fun k hk => hold k (by omega)⟩, fun b p v hv => ?_, fun i b hb => ?_, hi.inj, fun b hb => (by obtain ⟨t1, t2⟩ := hi.tokp b (by have := hn b; omega); exact ⟨by omega, t2⟩), bv, e1, fun i b ys hb hy => ?_, fun b => by have := e3 b; have := hn b; omega⟩, fun b hb => ?_, fun cs us ht hu => ?_⟩
 ·by_cases hbB : b = B
  ·subst hbB; exact hcell p v (hi.prot b p v hv)
  ·rw [cell?_of_heap (hold b hbB)]; exact hi.prot b p v hv
 ·have := hi.bxd _ _ hb; omega
 ·have hbx := e2 i b ys hb hy
  refine hbx.keep (Gh.le.refl g) (fun hd b' hb' => ⟨hold b' (hnbox i b' hb' ⟨b, hb, hd⟩), fun x => x⟩) (fun b' hb' => ⟨hold b' ?_, fun _ => rfl⟩)
  intro e; subst e
  have := mq hb hy b'; omega
 ·exact ⟨hold b (by intro e; subst e; omega), fun _ => rfl⟩
 ·refine OVL.keep hu fun b hb => ⟨hold b ?_, fun _ => rfl⟩
  intro e; subst e; have := ht b; omega
def zl (x : Opd) (dst : Option Nat) (σ : List AV) (h : AH) (K : List AV → AH → Prop) : Prop :=
 match (da σ x).1 with
 | .sl .own es => K (putA (da σ x).2 dst (.sl .sh es)) h
 | _ => False
theorem vt {o : Oper} {K : List AV → AH → Prop} {Q : Exit → Act → World → Prop} {t e : TypeId} {x : Operand} {y : Opd} (hop : o.op = .convert t t x) (hc : aB x = some y)
  (ht : P.underlying t = some (.slice e)) (he : P.underlying e = some (.int .u8)) (hs : SR ds w0 g n σ h a w) (hk : zl y o.dst σ h K) : o.wp P a w (bI ds w0 g n w K) Q := by
 obtain ⟨k1, k2, k3⟩ := hs.da hc
 unfold zl at hk
 split at hk <;> try (exact hk.elim)
 rename_i es hes
 rw [hes] at k1 k2 k3
 have k2' := k2
 simp only [VR] at k2'
 rcases k2' with ⟨_, hne, _⟩ | ⟨B, of, cap, hv, q2, q3, q4, q5, hp⟩
 ·exact absurd rfl hne
 ·rw [hv] at k1 k2 k3
  simp only [OV] at k3
  obtain ⟨t1, t2, cur, tt, t3, t4⟩ := k3
  have hBlt : B < w.heap.size := (Array.getElem?_eq_some_iff.1 t3).1
  have hfr : (w.freeze ⟨B, cur.size, none⟩ 1).heap[B]? = some (.cells cur tt (cur.size, cur.size + 1)) := by
   unfold World.freeze
   rw [if_neg (by decide)]
   show (w.heap.modify B _)[B]? = _
   rw [Array.getElem?_modify]; simp [t3]
  have hsame : (w.freeze ⟨B, cur.size, none⟩ 1).heap.size = w.heap.size := by simp [World.freeze]
  obtain ⟨i1, i2, i3⟩ := k1.inv.chgTok (n1 := fun b => n b + tkL (da σ y).2 a.tmps.toList b) (B := B) (w' := w.freeze ⟨B, cur.size, none⟩ 1) (fun b => by simp only [tk]; omega) (zf hp (by rintro rfl; have := q4 trivial; simp [hsz] at this) (q4 trivial).1) t1 (by simp [World.freeze]) (by simp [World.freeze]) (by simp [World.freeze]) hsame
   (fun j hj => by
    unfold World.freeze
    rw [if_neg (by decide)]
    show (w.heap.modify B _)[j]? = _
    rw [Array.getElem?_modify]; simp [Ne.symm hj])
   (fun p v hv => by simp only [World.cell?, t3] at hv; simp only [World.cell?, hfr]; exact hv)
  have hsh : w.shape? B = some (tt, cur.size) := by simp [World.shape?, t3]
  refine fx (u := .slice (some ⟨B, of, none⟩) es.length cap) (w' := w.freeze ⟨B, cur.size, none⟩ 1) ?_ (Gh.le.refl g) (i2.le fun b => by omega) (SR.put ⟨k1.vl, i3 _ _ (fun b => by omega) k1.ov, i1, k1.df⟩ o.dst (v := .sl .sh es) ?_ rfl) hk
  ·simp [execOp, hop, hv, convert, run_underlying ht, run_underlying he, markStringish, hsh]
  ·simp only [VR]
   exact .inr ⟨B, of, cap, rfl, q2, fun hc => (by cases hc), fun hc => (by cases hc), q5, hp⟩
def CF (neg : Bool) (K : AV → Prop) : AV → AV → Prop
 | .bool a, .bool b => K (.bool ((a == b) != neg))
 | _, _ => False
inductive NK where
 | ptr | ifc | map | fn
 deriving DecidableEq, Inhabited
def nkOf : TypeDesc → Option NK
 | .pointer _ => some .ptr | .interface _ => some .ifc | .map _ _ => some .map | .func _ _ _ => some .fn | _ => none
def vu (k : NK) (neg : Bool) (K : AV → Prop) : AV → Prop
 | .nilp => k = .ptr ∧ K (.bool (true != neg))
 | .box _ _ | .ref _ => k = .ptr ∧ K (.bool (false != neg))
 | .nili => k = .ifc ∧ K (.bool (true != neg))
 | .iface _ _ => k = .ifc ∧ K (.bool (false != neg))
 | .nilm => k = .map ∧ K (.bool (true != neg))
 | .mp _ => k = .map ∧ K (.bool (false != neg))
 | .nilf => k = .fn ∧ K (.bool (true != neg))
 | .fn _ _ _ => k = .fn ∧ K (.bool (false != neg))
 | _ => False
def vv (neg : Bool) (K : AV → Prop) : AV → Prop
 | .sl _ es => ∀ b, (b = true → es = []) → K (.bool (b != neg))
 | _ => False
def zm (mx : Bool) (K : AV → Prop) : AV → AV → Prop
 | .int k a, .int _ b => K (.int k (if mx then (if b > a then b else a) else (if b < a then b else a)))
 | _, _ => False
theorem qE : ∃ d, ∀ (t : TypeId) (x y : Value), Op.equal t x y = Op.equalIn (d + 1) t x y := ⟨9999, fun _ _ _ => rfl⟩
theorem zn {K : AV → Prop} {neg : Bool} {t : TypeId} {x y : AV} {u v : Value} (ht : P.underlying t = some .bool) (hx : VR g x u) (hy : VR g y v) (hk : CF neg K x y) :
  ∃ r z, (binOp (if neg then .neq else .eql) t u v).run P w = .ok z w ∧ VR g r z ∧ r.cl = true ∧ K r := by
 cases x <;> cases y <;> simp only [CF] at hk <;> try (exact hk.elim)
 simp only [VR] at hx hy; subst hx hy
 refine rq hk ?_
 obtain ⟨dd, hdd⟩ := qE
 cases neg
 ·simp only [Bool.false_eq_true, if_false, binOp, hdd, Op.equalIn]; simp [run_underlying ht]
 ·simp only [if_true, binOp, hdd, Op.equalIn]; simp [run_underlying ht]
def Ku (d : TypeDesc) : Bool := match d with | .pointer _ | .interface _ | .map _ _ | .func _ _ _ | .slice _ => true | _ => false
def fy (d : TypeDesc) (z : Value) : Bool := match d, z with | .pointer _, .pointer none | .interface _, .nilIface | .map _ _, .map none | .func _ _ _, .nilFunc | .slice _, .slice none _ _ => true | _, _ => false
def ic (d : TypeDesc) (v : AV) : Bool := match d, v with
 | .pointer _, .nilp | .pointer _, .box _ _ | .pointer _, .ref _ | .interface _, .nili | .interface _, .iface _ _ | .map _ _, .nilm | .map _ _, .mp _ | .func _ _ _, .nilf | .func _ _ _, .fn _ _ _ => true
 | .slice _, .sl _ _ => true
 | _, _ => false
def tD : AV → Bool → Prop
 | .nilp, b | .nili, b | .nilm, b | .nilf, b => b = true
 | .sl _ es, b => b = true → es = []
 | _, b => b = false
set_option maxHeartbeats 2000000 in
theorem CG {d : TypeDesc} {t : TypeId} {x : AV} {u z : Value} (hd : P.underlying t = some d) (hz : fy d z = true) (hf : ic d x = true) (hx : VR g x u) :
  ∃ b : Bool, (Op.equal t u z).run P w = .ok b w ∧ (Op.equal t z u).run P w = .ok b w ∧ tD x b := by
 obtain ⟨dd, hdd⟩ := qE
 cases x with
 | nilp =>
  simp only [VR] at hx; subst hx
  cases d <;> simp [ic] at hf
  cases z <;> simp [fy] at hz
  rename_i e p; cases p <;> simp at hz
  exact ⟨true, by rw [hdd, Op.equalIn]; simp [run_underlying hd], by rw [hdd, Op.equalIn]; simp [run_underlying hd], rfl⟩
 | box i o =>
  obtain ⟨B, hb, rfl⟩ := hx
  cases d <;> simp [ic] at hf
  cases z <;> simp [fy] at hz
  rename_i e p; cases p <;> simp at hz
  exact ⟨false, by rw [hdd, Op.equalIn]; simp [run_underlying hd], by rw [hdd, Op.equalIn]; simp [run_underlying hd], rfl⟩
 | ref cs =>
  obtain ⟨B, o, rfl, hb⟩ := hx
  cases d <;> simp [ic] at hf
  cases z <;> simp [fy] at hz
  rename_i e p; cases p <;> simp at hz
  exact ⟨false, by rw [hdd, Op.equalIn]; simp [run_underlying hd], by rw [hdd, Op.equalIn]; simp [run_underlying hd], rfl⟩
 | nili =>
  simp only [VR] at hx; subst hx
  cases d <;> simp [ic] at hf
  cases z <;> simp [fy] at hz
  exact ⟨true, by rw [hdd, Op.equalIn]; simp [run_underlying hd], by rw [hdd, Op.equalIn]; simp [run_underlying hd], rfl⟩
 | iface ti v =>
  obtain ⟨u', rfl, hb⟩ := hx
  cases d <;> simp [ic] at hf
  cases z <;> simp [fy] at hz
  exact ⟨false, by rw [hdd, Op.equalIn]; simp [run_underlying hd], by rw [hdd, Op.equalIn]; simp [run_underlying hd], rfl⟩
 | nilm =>
  simp only [VR] at hx; subst hx
  cases d <;> simp [ic] at hf
  cases z <;> simp [fy] at hz
  rename_i p; cases p <;> simp at hz
  exact ⟨true, by rw [hdd, Op.equalIn]; simp [run_underlying hd], by rw [hdd, Op.equalIn]; simp [run_underlying hd], rfl⟩
 | mp i =>
  obtain ⟨B, hb, rfl⟩ := hx
  cases d <;> simp [ic] at hf
  cases z <;> simp [fy] at hz
  rename_i p; cases p <;> simp at hz
  exact ⟨false, by rw [hdd, Op.equalIn]; simp [run_underlying hd], by rw [hdd, Op.equalIn]; simp [run_underlying hd], rfl⟩
 | nilf =>
  simp only [VR] at hx; subst hx
  cases d <;> simp [ic] at hf
  cases z <;> simp [fy] at hz
  exact ⟨true, by rw [hdd, Op.equalIn]; simp [run_underlying hd], by rw [hdd, Op.equalIn]; simp [run_underlying hd], rfl⟩
 | fn f a b =>
  obtain ⟨xs, ys, rfl, hb⟩ := hx
  cases d <;> simp [ic] at hf
  cases z <;> simp [fy] at hz
  exact ⟨false, by rw [hdd, Op.equalIn]; simp [run_underlying hd], by rw [hdd, Op.equalIn]; simp [run_underlying hd], rfl⟩
 | sl m es =>
  simp only [VR] at hx
  cases d <;> simp [ic] at hf
  cases z <;> simp [fy] at hz
  rename_i e p _ _; cases p <;> simp at hz
  rcases hx with ⟨h1, h2, z0, rfl⟩ | ⟨B, o, cap, rfl, _⟩
  ·cases z0 with
   | none => exact ⟨true, by rw [hdd, Op.equalIn]; simp [run_underlying hd], by rw [hdd, Op.equalIn]; simp [run_underlying hd], fun _ => h1⟩
   | some z1 => exact ⟨false, by rw [hdd, Op.equalIn]; simp [run_underlying hd], by rw [hdd, Op.equalIn]; simp [run_underlying hd], fun h => by cases h⟩
  ·exact ⟨false, by rw [hdd, Op.equalIn]; simp [run_underlying hd], by rw [hdd, Op.equalIn]; simp [run_underlying hd], fun h => by cases h⟩
 | _ => cases d <;> simp [ic] at hf
def nilO (d : TypeDesc) : Operand → Bool
 | .const z => fy d z
 | _ => false
theorem wA {op : BinOp} {neg : Bool} {t : TypeId} {u z : Value} {b : Bool} (hop : op = if neg then .neq else .eql) (h : (Op.equal t u z).run P w = .ok b w)
  (h1 : ∀ k i, u = .int k i → ∀ k' j, z ≠ .int k' j) (h2 : ∀ k i, u = .float k i → ∀ k' j, z ≠ .float k' j) (h3 : ∀ k i l, u = .complex k i l → ∀ k' j l', z ≠ .complex k' j l') (h4 : ∀ i, u = .string i → ∀ j, z ≠ .string j) :
  (binOp op t u z).run P w = .ok (.bool (b != neg)) w := by
 cases neg <;> subst hop <;> simp only [Bool.false_eq_true, if_false, if_true]
 ·unfold binOp
  split <;> simp_all
 ·unfold binOp
  split <;> simp_all
theorem rD {d : TypeDesc} {z : Value} (h : fy d z = true) : (∀ k i, z ≠ .int k i) ∧ (∀ k i, z ≠ .float k i) ∧ (∀ k i l, z ≠ .complex k i l) ∧ (∀ i, z ≠ .string i) ∧ (∀ c, z ≠ .agg c) := by
 refine ⟨?_, ?_, ?_, ?_, ?_⟩ <;> intros <;> rintro rfl <;> cases d <;> simp [fy] at h
theorem zo {k : NK} {d : TypeDesc} {neg : Bool} {K : AV → Prop} {x : AV} (hd : nkOf d = some k) (hk : vu k neg K x) : ic d x = true ∧ ∀ b, tD x b → K (.bool (b != neg)) := by
 cases x <;> simp only [vu] at hk <;> try (exact hk.elim)
 all_goals
  obtain ⟨rfl, hk⟩ := hk
  refine ⟨?_, fun b hb => ?_⟩
  ·cases d <;> simp [nkOf] at hd <;> rfl
  ·simp only [tD] at hb; subst hb; exact hk
theorem zp {e : TypeId} {neg : Bool} {K : AV → Prop} {x : AV} (hk : vv neg K x) : ic (.slice e) x = true ∧ ∀ b, tD x b → K (.bool (b != neg)) := by
 cases x <;> simp only [vv] at hk <;> try (exact hk.elim)
 exact ⟨rfl, fun b hb => hk b hb⟩
theorem gg {o : Oper} {K : List AV → AH → Prop} {Q : Exit → Act → World → Prop} {op : BinOp} {neg : Bool} {t u : TypeId} {x y : Operand} {x' : Opd} {d : TypeDesc} (hop : o.op = .binOp op t x y u ∨ o.op = .binOp op t y x u) (hn : op = if neg then .neq else .eql)
  (hx : aB x = some x') (ht : P.underlying t = some d) (hy : nilO d y = true) (hs : SR ds w0 g n σ h a w) (hf : ic d (ag σ x') = true) (hk : ∀ b, tD (ag σ x') b → K (putA σ o.dst (.bool (b != neg))) h) : o.wp P a w (bI ds w0 g n w K) Q := by
 have vx := ai hs.inv.gl hs.vl hx
 cases y <;> simp only [nilO] at hy <;> try (cases hy; done)
 rename_i z
 obtain ⟨b, e1, e2, e3⟩ := CG (w := w) ht hy hf vx
 obtain ⟨z1, z2, z3, z4, z5⟩ := rD hy
 refine eF hs (v := .bool (b != neg)) (u := .bool (b != neg)) ?_ (by simp [VR]) rfl (hk b e3)
 have hz : a.eval (.const z) = z := rfl
 rcases hop with hop | hop
 ·have hb := wA (P := P) (w := w) (t := t) (u := a.eval x) (z := z) hn e1 (fun _ _ _ _ _ => z1 _ _) (fun _ _ _ _ _ => z2 _ _) (fun _ _ _ _ _ _ _ => z3 _ _ _) (fun _ _ _ => z4 _)
  have hg : (eqGuard op t x (.const z) (a.eval x) z).run P w = .ok () w := by
   cases neg <;> subst hn <;> simp only [Bool.false_eq_true, if_false, if_true] <;> unfold eqGuard <;> simp <;> split <;> simp_all
  simp [execOp, hop, hz, hg, hb]
 ·have hb := wA (P := P) (w := w) (t := t) (u := z) (z := a.eval x) hn e2 (fun _ _ h => absurd h (z1 _ _)) (fun _ _ h => absurd h (z2 _ _)) (fun _ _ _ h => absurd h (z3 _ _ _)) (fun _ h => absurd h (z4 _))
  have hg : (eqGuard op t (.const z) x z (a.eval x)).run P w = .ok () w := by
   cases neg <;> subst hn <;> simp only [Bool.false_eq_true, if_false, if_true] <;> unfold eqGuard <;> simp <;> split <;> simp_all
  simp [execOp, hop, hz, hg, hb]
theorem qF {ts : Array TypeId} {ty : TypeId} {K : AV → Prop} {mx : Bool} {x y : AV} {u v : Value} (hx : VR g x u) (hy : VR g y v) (hk : zm mx K x y) :
  ∃ r z, ((if mx then Builtin.max_ else Builtin.min_) ts ty #[u, v]).run P w = .ok z w ∧ VR g r z ∧ r.cl = true ∧ K r := by
 cases x <;> cases y <;> simp only [zm] at hk <;> try (exact hk.elim)
 simp only [VR] at hx hy; subst hx hy
 refine hZ hk ?_
 cases mx <;> simp [Builtin.max_, Builtin.min_, Builtin.max2, Builtin.min2]
end
end Go.Proofs.YtibchilpaaiecaaGreatDoor.M
