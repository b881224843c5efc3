/- Operations that move tokens or change boxes: moves, new boxes, stores, append. -/
import Derived.Test.YtibchilpaaiecaaGreatDoorM4
import Derived.Laws.AppendOwn
set_option linter.unusedVariables false
set_option linter.unusedSimpArgs false
namespace Go.Proofs.YtibchilpaaiecaaGreatDoor.M
open Go.RowKit
def da (σ : List AV) : Opd → AV × List AV
 | .tmp t => (σ.getD t aa, σ.set t (σ.getD t aa).sh)
 | .con v => (v, σ)
section
variable {P : Program} {w0 w : World} {ds : List Deferred} {g : Gh} {h : AH} {n : Nat → Nat} {σ : List AV} {a : Act}
theorem IP {v : Value} {x : AV} (h : lit v = some x) : x.cl = true := by
 unfold lit at h; split at h <;> cases h <;> rfl
theorem SR.da (hs : SR ds w0 g n σ h a w) {x : Operand} {y : Opd} (hc : aB x = some y) :
  SR ds w0 g (fun B => n B + tk (da σ y).1 (a.eval x) B) (da σ y).2 h a w ∧ VR g (da σ y).1 (a.eval x) ∧ OV w0 g w (da σ y).1 (a.eval x) := by
 have hv := ai hs.inv.gl hs.vl hc
 cases x with
 | tmp t =>
  simp only [aB, Option.some.injEq] at hc; subst hc
  cases e : σ[t]? with
  | none =>
   have h1 : a.tmps[t]? = none := by
    have := VL.length hs.vl
    rw [List.getElem?_eq_none_iff] at e
    rw [Array.getElem?_eq_none_iff]
    simp at this; omega
   have h2 : σ.set t (σ.getD t aa).sh = σ := List.set_eq_of_length_le (by rw [List.getElem?_eq_none_iff] at e; exact e)
   have h3 : σ.getD t aa = aa := by simp [List.getD, e]
   rw [h3] at h2
   simp only [M.da, h3, h2]
   refine ⟨⟨hs.vl, hs.ov, hs.inv.le fun B => ?_, hs.df⟩, ?_, ?_⟩
   ·rw [oK (by rfl)]; omega
   ·simp only [ag, h3] at hv; exact hv
   ·exact oL rfl
  | some v =>
   have hl := VL.length hs.vl
   have hlt : t < a.tmps.size := by rw [Array.length_toList] at hl; rw [hl]; exact (List.getElem?_eq_some_iff.1 e).1
   have hu : a.tmps[t]? = some a.tmps[t] := by simp [hlt]
   have hev : a.eval (.tmp t) = a.tmps[t] := by simp [Act.eval, hlt]
   have h3 : σ.getD t aa = v := by simp [List.getD, e]
   obtain ⟨k1, k2, k3, k4, k5⟩ := hs.shl e hu
   simp only [M.da, h3, hev]
   exact ⟨⟨k1, k2, hs.inv.le fun B => by have := k3 B; omega, hs.df⟩, k5, k4⟩
 | const v =>
  simp only [aB] at hc
  split at hc
  ·rename_i b hb
   cases hc
   have hcl := IP hb
   exact ⟨⟨hs.vl, hs.ov, hs.inv.le fun B => by simp only [M.da]; rw [oK hcl]; omega, hs.df⟩, hv, oL hcl⟩
  ·cases hc
 | func f =>
  simp only [aB, Option.some.injEq] at hc; subst hc
  exact ⟨⟨hs.vl, hs.ov, hs.inv.le fun B => by simp only [M.da]; rw [oK rfl]; omega, hs.df⟩, hv, oL rfl⟩
 | global x =>
  simp only [aB] at hc
  split at hc
  ·rename_i cs hx
   cases hc
   exact ⟨⟨hs.vl, hs.ov, hs.inv.le fun B => by simp only [M.da]; rw [oK rfl]; omega, hs.df⟩, hv, oL rfl⟩
  ·cases hc
theorem fx {o : Oper} {K : List AV → AH → Prop} {Q : Exit → Act → World → Prop} {w' : World} {g' : Gh} {σ' : List AV} {h' : AH} {u : Value}
  (hr : (execOp a.eval o).run P w = .ok (.value u) w') (hg : g.le g') (hk : Keep n g w g' w') (hs : SR ds w0 g' n σ' h' (a.put o.dst u) w') (hK : K σ' h') : o.wp P a w (bI ds w0 g n w K) Q := by
 unfold Oper.wp
 rw [hr, Oper.upon_value]
 exact ⟨g', σ', h', hK, hg, hk, hs⟩
theorem y9 {o : Oper} {K : List AV → AH → Prop} {Q : Exit → Act → World → Prop} {w' : World} {g' : Gh} {σ' : List AV} {h' : AH}
  (hr : (execOp a.eval o).run P w = .ok .skip w') (hd : o.dst = none) (hg : g.le g') (hk : Keep n g w g' w') (hs : SR ds w0 g' n σ' h' a w') (hK : K σ' h') : o.wp P a w (bI ds w0 g n w K) Q := by
 unfold Oper.wp
 rw [hr, Oper.upon_skip, hd]
 exact ⟨g', σ', h', hK, hg, hk, hs⟩
theorem qB {o : Oper} {K : List AV → AH → Prop} {Q : Exit → Act → World → Prop} {x : Operand} {y : Opd} (ho : o.op = .assign x ∨ o.op = .move x) (hc : aB x = some y) (hs : SR ds w0 g n σ h a w)
  (hK : K (putA (da σ y).2 o.dst (da σ y).1) h) : o.wp P a w (bI ds w0 g n w K) Q := by
 obtain ⟨k1, k2, k3⟩ := hs.da hc
 have hr : (execOp a.eval o).run P w = .ok (.value (a.eval x)) w := by rcases ho with ho | ho <;> simp [execOp, ho]
 have hs' : SR ds w0 g n (da σ y).2 h a w := ⟨k1.vl, k1.ov, k1.inv.le fun B => by omega, k1.df⟩
 refine fx hr (Gh.le.refl g) (Keep.refl _ _ _) (hs'.step o.dst k1.vl k1.ov k2 k3 (k1.inv.le fun B => by omega)) hK
theorem kS {v : AV} {u : Value} (hv : VR g v u) (ho : aM v.cells = true) : VL g v.cells u.cells.toList := by
 cases v <;> simp only [AV.cells] at ho ⊢ <;> simp only [VR] at hv
 case agg cs => obtain ⟨vs, rfl, h1, _⟩ := hv; exact h1
 case tup cs => simp [aM, AV.one] at ho
 case int => subst hv; exact ⟨_, [], rfl, by simp [VR], rfl⟩
 case bool => subst hv; exact ⟨_, [], rfl, by simp [VR], rfl⟩
 case str => subst hv; exact ⟨_, [], rfl, by simp [VR], rfl⟩
 case nilp => subst hv; exact ⟨_, [], rfl, by simp [VR], rfl⟩
 case box => obtain ⟨B, h1, rfl⟩ := hv; exact ⟨_, [], rfl, ⟨B, h1, rfl⟩, rfl⟩
 case ref => obtain ⟨B, o, rfl, h1⟩ := hv; exact ⟨_, [], rfl, ⟨B, o, rfl, h1⟩, rfl⟩
 case sl m es =>
  rcases hv with ⟨h1, h2, z0, rfl⟩ | ⟨B, o, cap, rfl, h1⟩
  ·exact ⟨_, [], rfl, by simp only [VR]; exact .inl ⟨h1, h2, z0, rfl⟩, rfl⟩
  ·exact ⟨_, [], rfl, by simp only [VR]; exact .inr ⟨B, o, cap, rfl, h1⟩, rfl⟩
 case nili => subst hv; exact ⟨_, [], rfl, by simp [VR], rfl⟩
 case iface => obtain ⟨x, rfl, h1⟩ := hv; exact ⟨_, [], rfl, ⟨x, rfl, h1⟩, rfl⟩
 case nilf => subst hv; exact ⟨_, [], rfl, by simp [VR], rfl⟩
 case fn => obtain ⟨x, y, rfl, h1⟩ := hv; exact ⟨_, [], rfl, ⟨x, y, rfl, h1⟩, rfl⟩
 case nilm => subst hv; exact ⟨_, [], rfl, by simp [VR], rfl⟩
 case mp => obtain ⟨B, h1, rfl⟩ := hv; exact ⟨_, [], rfl, ⟨B, h1, rfl⟩, rfl⟩
 case any => simp [AV.cells, aM, AV.one] at ho
 case bs => obtain ⟨B, C, o, h1, rfl, h2⟩ := hv; exact ⟨_, [], rfl, ⟨B, C, o, h1, rfl, h2⟩, rfl⟩
theorem wm {v : AV} {u : Value} (hv : VR g v u) (ho : aM v.cells = true) (B : Nat) : tkL v.cells u.cells.toList B = tk v u B := by
 cases v <;> simp only [AV.cells] at ho ⊢ <;> simp only [VR] at hv
 case agg cs => obtain ⟨vs, rfl, h1, _⟩ := hv; simp [tk, Value.cells]
 case tup cs => simp [aM, AV.one] at ho
 case int => subst hv; simp [tkL, tk, Value.cells]
 case bool => subst hv; simp [tkL, tk, Value.cells]
 case str => subst hv; simp [tkL, tk, Value.cells]
 case nilp => subst hv; simp [tkL, tk, Value.cells]
 case box => obtain ⟨B, h1, rfl⟩ := hv; simp [tkL, tk, Value.cells]
 case ref => obtain ⟨B, o, rfl, h1⟩ := hv; simp [tkL, tk, Value.cells]
 case sl m es =>
  rcases hv with ⟨h1, h2, z0, rfl⟩ | ⟨B, o, cap, rfl, h1⟩ <;> simp [tkL, Value.cells]
 case nili => subst hv; simp [tkL, tk, Value.cells]
 case iface => obtain ⟨x, rfl, h1⟩ := hv; simp [tkL, tk, Value.cells]
 case nilf => subst hv; simp [tkL, tk, Value.cells]
 case fn => obtain ⟨x, y, rfl, h1⟩ := hv; simp [tkL, tk, Value.cells]
 case nilm => subst hv; simp [tkL, tk, Value.cells]
 case mp => obtain ⟨B, h1, rfl⟩ := hv; simp [tkL, tk, Value.cells]
 case any => simp [AV.cells, aM, AV.one] at ho
 case bs => obtain ⟨B, C, o, h1, rfl, h2⟩ := hv; simp [tkL, tk, Value.cells]
theorem wo {v : AV} {u : Value} (hv : VR g v u) (ho : aM v.cells = true) (hov : OV w0 g w v u) : OVL w0 g w v.cells u.cells.toList := by
 cases v <;> simp only [AV.cells] at ho ⊢ <;> simp only [VR] at hv
 case agg cs => obtain ⟨vs, rfl, h1, _⟩ := hv; simpa [OV, Value.cells] using hov
 case tup cs => simp [aM, AV.one] at ho
 case sl m es =>
  rcases hv with ⟨h1, h2, z0, rfl⟩ | ⟨B, o, cap, rfl, h1⟩ <;> exact ⟨hov, by simp [OVL]⟩
 all_goals exact lM (by simp [clL, AV.cl])
theorem nN {o : Oper} {K : List AV → AH → Prop} {Q : Exit → Act → World → Prop} {el : TypeId} {σ1 : List AV} {cs : List AV} {vs : List Value}
  (hr : (execOp a.eval o).run P w = .ok (.value (.pointer (some ⟨w.heap.size, 0, none⟩))) (w.alloc (.cells vs.toArray el)))
  (hs : SR ds w0 g (fun B => n B + tkL cs vs B) σ1 h a w) (hv : VL g cs vs) (ho : aM cs = true) (hov : OVL w0 g w cs vs)
  (hK : K (putA σ1 o.dst (.box h.length 0)) (h ++ [.cells cs])) : o.wp P a w (bI ds w0 g n w K) Q := by
 have hle : g.le (g.addBox h.length w.heap.size) := Gh.le_addBox hs.inv.bx_none
 have hp : ∀ B p, B ≠ w.heap.size → (g.addBox h.length w.heap.size).prot B p = g.prot B p := fun _ _ _ => rfl
 have hi := hs.inv.allocBox (n' := fun B => n B + tkL σ1 a.tmps.toList B) el hv ho hov (fun B => by omega)
 have hk : Keep n g w (g.addBox h.length w.heap.size) (w.alloc (.cells vs.toArray el)) := (hs.inv.keepAlloc _ hp).le fun B => by omega
 have hs' : SR ds w0 (g.addBox h.length w.heap.size) n σ1 (h ++ [.cells cs]) a (w.alloc (.cells vs.toArray el)) :=
  ⟨VL.mono hle _ _ hs.vl, OVL.alloc hs.inv _ hp hs.vl hs.ov, hi, hs.df⟩
 refine fx hr hle hk (hs'.put o.dst (v := .box h.length 0) ⟨w.heap.size, by simp [Gh.addBox], rfl⟩ rfl) hK
theorem zb {o : Oper} {K : List AV → AH → Prop} {Q : Exit → Act → World → Prop} {el : TypeId} {x : Operand} {y : Opd} (hop : o.op = .box el x) (hc : aB x = some y) (hs : SR ds w0 g n σ h a w)
  (ho : aM (da σ y).1.cells = true) (hK : K (putA (da σ y).2 o.dst (.box h.length 0)) (h ++ [.cells (da σ y).1.cells])) : o.wp P a w (bI ds w0 g n w K) Q := by
 obtain ⟨k1, k2, k3⟩ := hs.da hc
 refine nN (el := el) (vs := (a.eval x).cells.toList) ?_ (σ1 := (da σ y).2) ?_ (kS k2 ho) ho (wo k2 ho k3) hK
 ·simp [execOp, hop, Instr.box, newVar, newRow]
 ·exact ⟨k1.vl, k1.ov, k1.inv.le fun B => by rw [wm k2 ho]; omega, k1.df⟩
theorem vd {o : Oper} {K : List AV → AH → Prop} {Q : Exit → Act → World → Prop} {el : TypeId} {i : TypeInfo} {z : Value} {cs : List AV} (hop : o.op = .alloc el) (hi : P.info? el = some i) (hz : i.zero = some z) (hl : litC z = some cs)
  (hs : SR ds w0 g n σ h a w) (hK : K (putA σ o.dst (.box h.length 0)) (h ++ [.cells cs])) : o.wp P a w (bI ds w0 g n w K) Q := by
 obtain ⟨h1, h2, h3⟩ := oO (g := g) hl
 refine nN (el := el) (vs := z.cells.toList) ?_ (σ1 := σ) ⟨hs.vl, hs.ov, hs.inv.le fun B => by rw [mo h2]; omega, hs.df⟩ h1 h3 (lM h2) hK
 simp [execOp, hop, Instr.alloc, zeroValue, typeInfo, hi, hz, newVar, newRow]
def ovl {α : Type} (l : List α) (o : Nat) (vs : List α) : List α := l.take o ++ vs ++ l.drop (o + vs.length)
theorem zc {cs ds : List AV} {us vs : List Value} (h : VL g cs us) (k : VL g ds vs) (o : Nat) : VL g (ovl cs o ds) (ovl us o vs) := by
 unfold ovl
 rw [VL.length k]
 exact VL.append (VL.append (VL.take h o) k) (VL.drop h _)
theorem rv {cs ds : List AV} (h : aM cs = true) (k : aM ds = true) (o : Nat) : aM (ovl cs o ds) = true := by
 refine iz fun c hc => ?_
 unfold ovl at hc
 rw [List.append_assoc, List.mem_append, List.mem_append] at hc
 rcases hc with hc | hc | hc
 ·exact fw h c (List.mem_of_mem_take hc)
 ·exact fw k c hc
 ·exact fw h c (List.mem_of_mem_drop hc)
theorem tw {cs : List AV} {us : List Value} (h : VL g cs us) (o : Nat) (B : Nat) : tkL cs us B = tkL (cs.take o) (us.take o) B + tkL (cs.drop o) (us.drop o) B := by
 have := kR (VL.take h o) (cs.drop o) (us.drop o) B
 rw [List.take_append_drop, List.take_append_drop] at this
 exact this
theorem EU {cs ds : List AV} {us vs : List Value} (h : VL g cs us) (k : VL g ds vs) (o : Nat) (B : Nat) : tkL (ovl cs o ds) (ovl us o vs) B ≤ tkL cs us B + tkL ds vs B := by
 unfold ovl
 rw [VL.length k, kR (VL.append (VL.take h o) k), kR (VL.take h o)]
 have h1 := tw h o B
 have h2 := tw (VL.drop h o) ds.length B
 rw [List.drop_drop, List.drop_drop] at h2
 omega
theorem OVL.append' : ∀ {cs ds : List AV} {us vs : List Value}, VL g cs us → OVL w0 g w cs us → OVL w0 g w ds vs → OVL w0 g w (cs ++ ds) (us ++ vs)
 | [], ds, us, vs, h, h1, h2 => by simp only [VL] at h; subst h; simpa using h2
 | c :: cs, ds, us, vs, h, h1, h2 => by
  simp only [VL] at h; obtain ⟨x, xs, rfl, _, hr⟩ := h
  simp only [OVL] at h1
  exact ⟨h1.1, OVL.append' hr h1.2 h2⟩
theorem OVL.take : ∀ {cs : List AV} {us : List Value}, OVL w0 g w cs us → ∀ o, OVL w0 g w (cs.take o) (us.take o)
 | [], us, h, o => by simp [OVL]
 | c :: cs, [], h, o => by cases o <;> simp [OVL]
 | c :: cs, u :: us, h, 0 => by simp [OVL]
 | c :: cs, u :: us, h, o + 1 => by simp only [OVL] at h; exact ⟨h.1, OVL.take h.2 o⟩
theorem OVL.drop : ∀ {cs : List AV} {us : List Value}, OVL w0 g w cs us → ∀ o, OVL w0 g w (cs.drop o) (us.drop o)
 | [], us, h, o => by simp [OVL]
 | c :: cs, [], h, o => by cases o <;> simp [OVL] <;> (cases (List.drop _ cs) <;> simp [OVL])
 | c :: cs, u :: us, h, 0 => h
 | c :: cs, u :: us, h, o + 1 => by simp only [OVL] at h; exact OVL.drop h.2 o
theorem zd {cs ds : List AV} {us vs : List Value} (h : VL g cs us) (k : VL g ds vs) (h1 : OVL w0 g w cs us) (h2 : OVL w0 g w ds vs) (o : Nat) : OVL w0 g w (ovl cs o ds) (ovl us o vs) := by
 unfold ovl
 rw [VL.length k]
 exact OVL.append' (VL.append (VL.take h o) k) (OVL.append' (VL.take h o) (OVL.take h1 o) h2) (OVL.drop h1 _)
def ze (N : Nat) (σ : List AV) (h : AH) (x y : Opd) (K : List AV → AH → Prop) : Prop :=
 match ag σ x with
 | .box id off => ∃ cs, h[id]? = some (.cells cs) ∧ off + N ≤ cs.length ∧ (da σ y).1.cells.length = N ∧ aM (da σ y).1.cells = true ∧
   K (da σ y).2 (h.set id (.cells (ovl cs off (da σ y).1.cells)))
 | _ => False
theorem oP {t : TypeId} {B o N : Nat} {el : TypeId} {cur : Array Value} {v : Value} (hsz : (P.info? t).map (·.size) = some N) (hN : v.cells.size = N) (hh : w.heap[B]? = some (.cells cur el (0, 0)))
  (hle : o + N ≤ cur.size) (h1 : ∀ x ∈ v.cells.toList, x.oneCell' = true) : (storeVar t ⟨B, o, none⟩ v).run P w = .ok () (w.setRow B (ovl cur.toList o v.cells.toList).toArray) := by
 have := run_storeCells_at P B o el v.cells.toList 0 cur w hh (by simp; omega) h1
 simp only [storeVar, Sem.run_bind, dK hsz, Result.andThen_ok]
 simp only [hN, ne_eq, not_true_eq_false, if_false]
 simpa [ovl] using this
theorem VL.ones {cs : List AV} {us : List Value} : VL g cs us → aM cs = true → ∀ x ∈ us, x.oneCell' = true := by
 induction cs generalizing us with
 | nil => intro h _ x hx; simp only [VL] at h; subst h; simp at hx
 | cons c cs ih =>
  intro h ho x hx
  simp only [VL] at h; obtain ⟨u, us, rfl, h1, h2⟩ := h
  simp only [aM, Bool.and_eq_true] at ho
  rcases List.mem_cons.1 hx with rfl | hx
  ·exact h1.oneCell ho.1
  ·exact ih h2 ho.2 x hx
theorem Inv.boxOf (hi : Inv w0 g h n w) {id B : Nat} {cs : List AV} (hc : h[id]? = some (.cells cs)) (hB : g.bx id = some B) :
  ∃ vs el ex, w0.heap.size ≤ B ∧ w.heap[B]? = some (.cells (vs ++ ex).toArray el (0, 0)) ∧ VL g cs vs ∧ aM cs = true ∧ OVL w0 g w cs vs ∧ gS g B := by
 obtain ⟨bv, e1, e2, e3⟩ := hi.rest
 have hil : id < h.length := (List.getElem?_eq_some_iff.1 hc).1
 obtain ⟨vs, hvs⟩ : ∃ vs, bv[id]? = some vs := ⟨bv[id], by simp [e1, hil]⟩
 obtain ⟨B', el, ex, h1, h2, h3, h4, ho, h5, h6⟩ := e2 id _ vs hc hvs
 rw [hB] at h1; cases h1
 exact ⟨vs, el, ex, h2, h3, h4, ho, h5, h6⟩
theorem ve {o : Oper} {K : List AV → AH → Prop} {Q : Exit → Act → World → Prop} {t : TypeId} {N : Nat} {x v : Operand} {x' v' : Opd} (hop : o.op = .store t x v) (hd : o.dst = none) (hx : aB x = some x') (hv : aB v = some v')
  (hsz : (P.info? t).map (·.size) = some N) (hs : SR ds w0 g n σ h a w) (hk : ze N σ h x' v' K) : o.wp P a w (bI ds w0 g n w K) Q := by
 have hxv := ai hs.inv.gl hs.vl hx
 obtain ⟨k1, k2, k3⟩ := hs.da hv
 unfold ze at hk
 split at hk <;> try (exact hk.elim)
 rename_i id off hex
 obtain ⟨cs, hc, hle, hN, ho, hK⟩ := hk
 rw [hex] at hxv
 obtain ⟨B, hB, hxe⟩ := hxv
 obtain ⟨vs, el, ex, b1, b2, b3, b4, b5, b6⟩ := hs.inv.boxOf hc hB
 have hcv := kS k2 ho
 have hl1 := VL.length hcv
 have hl2 := VL.length b3
 have hrun := oP (P := P) (w := w) (t := t) (B := B) (o := off) (N := N) (v := a.eval v) hsz (by simp at hl1; omega) b2 (by simp; omega) (hcv.ones ho)
 have hoe : ovl (vs ++ ex) off (a.eval v).cells.toList = ovl vs off (a.eval v).cells.toList ++ ex := by
  unfold ovl
  rw [List.take_append_of_le_length (by omega), List.drop_append_of_le_length (by omega)]
  simp only [List.append_assoc]
 simp only [hoe] at hrun
 have htok : ∀ b, 0 < n b + tkL (da σ v').2 a.tmps.toList b → b < w.heap.size ∧ ∀ i x, h[i]? = some x → x ≠ .dead → g.bx i ≠ some b := by
  intro b hb
  exact k1.inv.tokp b (by omega)
 obtain ⟨i1, i2, i3⟩ := k1.inv.storeBox (n' := fun b => n b + tkL (da σ v').2 a.tmps.toList b) hc hB hl2 b2 (zc b3 hcv off) (rv b4 ho off) (zd b3 hcv b5 (wo k2 ho k3) off)
  (fun b => by have := EU b3 hcv off b; rw [wm k2 ho] at this; omega) htok
 refine y9 (w' := w.setRow B (ovl vs off (a.eval v).cells.toList ++ ex).toArray) (g' := g) ?_ hd (Gh.le.refl g) (i2.le fun B => by omega) ⟨k1.vl, i3 _ _ k1.vl k1.ov, i1, k1.df⟩ hK
 simp [execOp, hop, Instr.storeAt, hxe, Instr.sureAddr, hrun]
end
end Go.Proofs.YtibchilpaaiecaaGreatDoor.M
/- append; literals of slices and structs. -/
set_option linter.unusedVariables false
set_option linter.unusedSimpArgs false
namespace Go.Proofs.YtibchilpaaiecaaGreatDoor.M
open Go.RowKit
def nq (d : TypeDesc) : Prop := d = .string ∨ ∃ e, d = .slice e
section
variable {P : Program} {w0 w : World} {ds : List Deferred} {g : Gh} {h : AH} {n : Nat → Nat} {σ : List AV} {a : Act}
theorem jD {t u ty e : TypeId} {i : TypeInfo} {d : TypeDesc} (ht : P.underlying t = some (.slice e)) (hu : P.underlying u = some d) (hnd : nq d) (hi : P.info? e = some i)
  {B o sl cap m : Nat} {x : Value} {news : List Value} {w' : World} (hl : (Builtin.lenOf x).run P w = .ok m w) (hf : (Builtin.firstCells i.size m x).run P w = .ok news.toArray w)
  (hroom : sl + m ≤ cap) (hst : (storeCells ⟨B, o + sl * i.size, none⟩ news).run P w = .ok () w') :
  (Builtin.append_ #[t, u] ty #[.slice (some ⟨B, o, none⟩) sl cap, x]).run P w = .ok (.slice (some ⟨B, o, none⟩) (sl + m) cap) w' := by
 rcases hnd with rfl | ⟨e', rfl⟩ <;>
 simp [Builtin.append_, run_underlying ht, run_underlying hu, sizeOf, typeInfo, hi, hl, hroom, hf, addr_add, hst]
theorem nW {t u ty e : TypeId} {i : TypeInfo} {z : Value} {d : TypeDesc} (ht : P.underlying t = some (.slice e)) (hu : P.underlying u = some d) (hnd : nq d) (hi : P.info? e = some i) (hz : i.zero = some z)
    {base : Option Addr} {sl cap m : Nat} {x : Value} {olds news : List Value} (hl : (Builtin.lenOf x).run P w = .ok m w)
    (hf : (Builtin.firstCells i.size m x).run P w.drew = .ok news.toArray w.drew) (hfo : (Builtin.firstCells i.size sl (.slice base sl cap)).run P w.drew = .ok olds.toArray w.drew)
    (hg : cap < sl + m) (h63 : sl + m ≤ 9223372036854775807) (hfit : Builtin.nextslicecap (sl + m) cap * i.bytes ≤ 281474976710656) :
    (Builtin.append_ #[t, u] ty #[.slice base sl cap, x]).run P w = .ok (.slice (some ⟨w.heap.size, 0, none⟩) (sl + m) (grownCap w (sl + m) cap e))
        (w.drew.alloc (.cells (olds.toArray ++ news.toArray ++ Builtin.zeroCells z.cells (grownCap w (sl + m) cap e - (sl + m))) e)) := by
  have hn : ¬ (sl + m ≤ cap) := by omega
  have h63' : ¬ (9223372036854775807 < ((sl : Int) + (m : Int))) := by omega
  have h48' : ¬ (281474976710656 < Builtin.nextslicecap (sl + m) cap * i.bytes) := by omega
  rcases hnd with rfl | ⟨e', rfl⟩ <;>
  (simp [Builtin.append_, run_underlying ht, run_underlying hu, sizeOf, typeInfo, zeroValue, hi, hz, hl, hn, h63', h48', Question.forced, hf, hfo, newRow, grownCap]
   congr 2
   apply Array.ext'
   simp [List.append_assoc])
theorem PE.cells : ∀ {es : List (List AV)} {B o : Nat}, PE g es B o → ∃ us : List Value, us.length = elen es ∧ (∀ j u, us[j]? = some u → g.prot B (o + j) = some u) ∧
  (∀ u ∈ us, u.oneCell' = true) ∧ ∀ (g' : Gh) (B' o' : Nat), g.le g' → (∀ j u, us[j]? = some u → g'.prot B' (o' + j) = some u) → PE g' es B' o'
 | [], B, o, h => ⟨[], rfl, fun j u hu => by simp at hu, fun u hu => by simp at hu, fun _ _ _ _ _ => by simp [PE]⟩
 | e :: es, B, o, h => by
  simp only [PE] at h
  obtain ⟨us, k1, k2, k3, k4⟩ := PE.cells h.2
  obtain ⟨vs, l1, l2⟩ := h.1.cells
  obtain ⟨c1, c2⟩ := h.1.cl
  have hl := VL.length l1
  refine ⟨vs ++ us, by simp [elen, k1, hl], fun j u hu => ?_, fun u hu => ?_, fun g' B' o' hle hp => ?_⟩
  ·by_cases hj : j < vs.length
   ·rw [List.getElem?_append_left hj] at hu; exact l2 j u hu
   ·rw [List.getElem?_append_right (by omega)] at hu
    have := k2 _ u hu
    rwa [show o + e.length + (j - vs.length) = o + j from by omega] at this
  ·rcases List.mem_append.1 hu with hu | hu
   ·exact l1.ones c2 u hu
   ·exact k3 u hu
  ·refine ⟨PR.mk fun i c hc => ?_, k4 g' B' _ hle fun j u hu => ?_⟩
   ·obtain ⟨x, x1, x2, x3, x4⟩ := PR.at_ h.1 hc
    obtain ⟨y, y1, y2⟩ := VL.get l1 hc
    have hy := l2 i y y1
    rw [x1] at hy; cases hy
    have hil : i < vs.length := (List.getElem?_eq_some_iff.1 y1).1
    exact ⟨x, hp i x (by rw [List.getElem?_append_left hil]; exact y1), VR.mono hle _ _ x2, x3, x4⟩
   ·have := hp (vs.length + j) u (by rw [List.getElem?_append_right (by omega)]; simpa using hu)
    rwa [show o' + (vs.length + j) = o' + e.length + j from by omega] at this
theorem gF {B o m cap S : Nat} {us : List Value} (hl : us.length = m * S) (hc : ∀ j u, us[j]? = some u → w.cell? ⟨B, o + j, none⟩ = some u) :
  (Builtin.firstCells S m (.slice (some ⟨B, o, none⟩) m cap)).run P w = .ok us.toArray w := by
 have := run_loadCells_list (P := P) w ⟨B, o, none⟩ us (fun j v hj => by rw [addr_add]; exact hc j v hj)
 simp only [Builtin.firstCells]
 rw [← hl, this]
theorem qC {es fs : List (List AV)} {S : Nat} (h1 : ∀ e ∈ es, e.length = S) (h2 : ∀ e ∈ fs, e.length = S) : Uni (es ++ fs) ∧ (es ++ fs ≠ [] → hsz (es ++ fs) = S) := by
 have h : ∀ e ∈ es ++ fs, e.length = S := fun e he => by rcases List.mem_append.1 he with he | he; exact h1 e he; exact h2 e he
 generalize es ++ fs = l at *
 cases l with
 | nil => exact ⟨fun e he => by simp at he, fun hn => absurd rfl hn⟩
 | cons x xs =>
  have hx : hsz (x :: xs) = S := h x (by simp)
  exact ⟨fun e he => by rw [hx]; exact h e he, fun _ => hx⟩
theorem zf {es : List (List AV)} {B o : Nat} (hp : PE g es B o) (he : es ≠ []) (hs : 0 < hsz es) : ∃ o u, g.prot B o = some u := by
 cases es with
 | nil => exact absurd rfl he
 | cons e es =>
  simp only [hsz] at hs
  simp only [PE] at hp
  obtain ⟨u, hu, _⟩ := PR.at_ hp.1 (i := 0) (c := e[0]) (by simp [hs])
  exact ⟨_, u, hu⟩
structure News (P : Program) (g : Gh) (w : World) (S : Nat) (x : Value) (fs : List (List AV)) (us : List Value) : Prop where
 len : (Builtin.lenOf x).run P w = .ok fs.length w
 cells : (Builtin.firstCells S fs.length x).run P w = .ok us.toArray w
 cellsD : (Builtin.firstCells S fs.length x).run P w.drew = .ok us.toArray w.drew
 size : ∀ f ∈ fs, f.length = S
 ul : us.length = fs.length * S
 one : ∀ u ∈ us, u.oneCell' = true
 lay : ∀ (g' : Gh) (B' o' : Nat), g.le g' → (∀ j u, us[j]? = some u → g'.prot B' (o' + j) = some u) → PE g' fs B' o'
theorem News.of_slice {m : Md} {fs : List (List AV)} {x : Value} {S : Nat} (hi : Inv w0 g h n w) (hx : VR g (.sl m fs) x) (hS : ∀ f ∈ fs, f.length = S) : ∃ us, News P g w S x fs us := by
 simp only [VR] at hx
 rcases hx with ⟨rfl, _, z0, rfl⟩ | ⟨B, o, cap, rfl, h2, h3, h4, h5, hp⟩
 ·exact ⟨[], rfl, by cases z0 <;> simp [Builtin.firstCells, loadCells, loadCellsFrom], by cases z0 <;> simp [Builtin.firstCells, loadCells, loadCellsFrom], by simp, by simp, by simp, fun _ _ _ _ _ => by simp [PE]⟩
 ·obtain ⟨us, k1, k2, k3, k4⟩ := hp.cells
  have hl : us.length = fs.length * S := by rw [k1, mn fs S hS]
  have hc : ∀ j u, us[j]? = some u → w.cell? ⟨B, o + j, none⟩ = some u := fun j u hu => hi.prot _ _ _ (k2 j u hu)
  exact ⟨us, rfl, gF hl hc, gF (w := w.drew) hl hc, hS, hl, k3, k4⟩
def encB (b : UInt8) : List AV := [.int .u8 b.toNat]
theorem News.of_str {s : ByteArray} {g : Gh} : ∃ us, News P g w 1 (.string s) (s.data.toList.map encB) us := by
 refine ⟨s.data.toList.map fun b => .int .u8 b.toNat, ?_, ?_, ?_, ?_, ?_, ?_, ?_⟩
 ·simp [Builtin.lenOf]
 ·simp only [Builtin.firstCells, Sem.run_pure]
  congr 1
  have hs : s.extract 0 ((List.map encB s.data.toList).length) = s := by
   have : (List.map encB s.data.toList).length = s.size := by simp
   rw [this]; exact ByteArray.extract_zero_size
  rw [hs]
  apply Array.ext'
  simp
 ·simp only [Builtin.firstCells, Sem.run_pure]
  congr 1
  have hs : s.extract 0 ((List.map encB s.data.toList).length) = s := by
   have : (List.map encB s.data.toList).length = s.size := by simp
   rw [this]; exact ByteArray.extract_zero_size
  rw [hs]
  apply Array.ext'
  simp
 ·intro f hf; obtain ⟨b, _, rfl⟩ := List.mem_map.1 hf; rfl
 ·simp
 ·intro u hu; obtain ⟨b, _, rfl⟩ := List.mem_map.1 hu; rfl
 ·intro g' B' o' hle hp
  generalize s.data.toList = l at *
  induction l generalizing o' with
  | nil => simp [PE]
  | cons b l ih =>
   refine ⟨⟨⟨_, by simpa using hp 0 _ rfl, by simp [VR], rfl, rfl⟩, by simp [PR]⟩, ?_⟩
   refine ih _ fun j u hu => ?_
   have := hp (j + 1) u (by simpa using hu)
   simpa [encB, Nat.add_assoc, Nat.add_comm 1] using this
def ib (m : Md) (es fs : List (List AV)) : AV := if fs = [] then .sl m es else .sl .own (es ++ fs)
theorem j6 {o : Oper} {K : List AV → AH → Prop} {Q : Exit → Act → World → Prop} {t u e : TypeId} {i : TypeInfo} {z : Value} {d : TypeDesc} {x y : Operand} {x' : Opd}
  (hop : o.op = .call { callee := .builtin .append, args := #[x, y], argTypes := #[t, u] }) (hx : aB x = some x')
  (ht : P.underlying t = some (.slice e)) (hu : P.underlying u = some d) (hnd : nq d) (hi : P.info? e = some i) (hz : i.zero = some z) (hzs : z.cells.size = i.size) (hS : 0 < i.size)
  (hs : SR ds w0 g n σ h a w) {m : Md} {es fs : List (List AV)} (hes : (da σ x').1 = .sl m es) {us : List Value} (hn : News P g w i.size (a.eval y) fs us)
  (hm : fs ≠ [] → m ≠ .sh) (hse : ∀ q ∈ es, q.length = i.size) (hb : (es.length + fs.length) * i.bytes ≤ 140737488355328) (hb2 : es.length + fs.length ≤ 9223372036854775807)
  (hK : K (putA (da σ x').2 o.dst (ib m es fs)) h) : o.wp P a w (bI ds w0 g n w K) Q := by
 obtain ⟨k1, k2, k3⟩ := hs.da hx
 rw [hes] at k1 k2 k3
 have hex : (execOp a.eval o).run P w = ((Builtin.append_ #[t, u] o.type #[a.eval x, a.eval y]).run P w).andThen fun v w => .ok (.value v) w := by
  simp [execOp, hop, resolve, invoke, builtin]
 by_cases hfs : fs = []
 ·-- nothing is appended
  subst hfs
  have hus : us = [] := List.eq_nil_of_length_eq_zero (by rw [hn.ul]; simp)
  subst hus
  have hrun : (Builtin.append_ #[t, u] o.type #[a.eval x, a.eval y]).run P w = .ok (a.eval x) w := by
   have k2' := k2
   simp only [VR] at k2'
   have hl := hn.len
   have hf := hn.cells
   simp only [List.length_nil] at hl hf
   rcases k2' with ⟨_, _, z0, hv⟩ | ⟨B, of, cap, hv, h2, _⟩
   ·rw [hv]
    rcases hnd with rfl | ⟨e', rfl⟩ <;>
    cases z0 <;> simp [Builtin.append_, run_underlying ht, run_underlying hu, sizeOf, typeInfo, hi, hl, hf, storeCells]
   ·rw [hv]
    exact jD ht hu hnd hi hl hf h2 rfl
  have hs' : SR ds w0 g n (da σ x').2 h a w := ⟨k1.vl, k1.ov, k1.inv.le fun B => by omega, k1.df⟩
  exact fx (by rw [hex, hrun]; rfl) (Gh.le.refl g) (Keep.refl _ _ _) (hs'.step o.dst k1.vl k1.ov k2 k3 (k1.inv.le fun B => by omega)) (by simpa [ib] using hK)
 ·obtain ⟨huni, hhz⟩ := qC hse hn.size
  have hlf : 0 < fs.length := List.length_pos_iff.2 hfs
  have hne : es ++ fs ≠ [] := by simp [hfs]
  have hhz := hhz hne
  have hAR : ib m es fs = .sl .own (es ++ fs) := by simp [ib, hfs]
  rw [hAR] at hK
  have hele := mn es i.size hse
  have helf := mn fs i.size hn.size
  have hele2 : elen (es ++ fs) = (es.length + fs.length) * i.size := by rw [jc, hele, helf, Nat.add_mul]
  by_cases hroom : ∃ B of cap, a.eval x = .slice (some ⟨B, of, none⟩) es.length cap ∧ es.length + fs.length ≤ cap
  ·-- in place
   obtain ⟨B, of, cap, hv, hr⟩ := hroom
   rw [hv] at k2 k3 k1
   have k2' := k2
   simp only [VR] at k2'
   rcases k2' with ⟨_, _, z0, hc⟩ | ⟨B', o', cap', hc, h2, h3, h4, h5, hp⟩
   ·simp only [Value.slice.injEq] at hc; omega
   ·cases hc
    have hown : m = .own := by
     cases m with
     | own => rfl
     | sh => exact absurd rfl (hm hfs)
     | ex => have := h3 rfl; omega
    subst hown
    simp only [OV] at k3
    obtain ⟨t1, t2, cur, tt, t3, t4⟩ := k3
    have hes0 : es ≠ [] := by rintro rfl; have := h4 rfl; simp [hsz] at this
    have hhes : hsz es = i.size := by
     cases es with
     | nil => exact absurd rfl hes0
     | cons q qs => exact hse q (by simp)
    rw [hhes] at t4
    have hroom2 : fs.length * i.size ≤ (cap - es.length) * i.size := Nat.mul_le_mul_right _ (by omega)
    have hus := hn.ul
    have hst := run_storeCells_at P B (of + elen es) tt us 0 cur w t3 (by omega) hn.one
    rw [hele] at hst
    simp only [Nat.add_zero] at hst
    have hrun := jD (P := P) (w := w) (ty := o.type) ht hu hnd hi (B := B) (o := of) (sl := es.length) (cap := cap) hn.len hn.cells hr hst
    rw [← hele] at hrun
    obtain ⟨i1, i2, i3, i4⟩ := k1.inv.appendTail (n1 := fun b => n b + tkL (da σ x').2 a.tmps.toList b) (B := B) (e := of + elen es) (cur := cur) (t := tt) (vs := us)
     (fun b => by simp only [tk]; omega) (zf hp hes0 (hhes ▸ hS)) t1 t2 t3 (by omega)
    have hheap := setRow_heap w B cur (cur.toList.take (of + elen es) ++ us ++ cur.toList.drop (of + elen es + us.length)).toArray tt (0, 0) t3
    have hVR : VR (g.addProt B (of + elen es) us) (.sl .own (es ++ fs)) (.slice (some ⟨B, of, none⟩) (es.length + fs.length) cap) := by
     simp only [VR]
     refine .inr ⟨B, of, cap, by simp, by simp; omega, fun hc => by simp at hc, fun _ => ⟨by omega, (h4 rfl).2⟩, huni, PE.append (PE.mono i2 _ _ _ hp) (hn.lay _ _ _ i2 fun j u hj => Gh.addProt_at hj)⟩
    have hOV : OV w0 (g.addProt B (of + elen es) us) (w.setRow B (cur.toList.take (of + elen es) ++ us ++ cur.toList.drop (of + elen es + us.length)).toArray) (.sl .own (es ++ fs)) (.slice (some ⟨B, of, none⟩) (es.length + fs.length) cap) := by
     simp only [OV]
     refine ⟨t1, fun p hp' => ?_, _, tt, hheap, ?_⟩
     ·rw [jc, helf] at hp'
      rw [Gh.addProt_other (by omega)]; exact t2 p (by omega)
     ·rw [hhz, List.length_append, jc, helf, hele]
      simp only [List.size_toArray, List.length_append, List.length_take, List.length_drop, Array.length_toList]
      have e1 : (cap - (es.length + fs.length)) * i.size + fs.length * i.size = (cap - es.length) * i.size := by rw [← Nat.add_mul]; congr 1; omega
      omega
    refine fx (by rw [hex, hv, hrun]; rfl) i2 (i3.le fun b => by omega) (SR.step (σ := (da σ x').2) (n := n) (h := h) (w := w) (g := g) ⟨k1.vl, k1.ov, k1.inv.le fun b => by omega, k1.df⟩ o.dst (VL.mono i2 _ _ k1.vl) (i4 _ _ (fun b => by omega) k1.ov) hVR hOV ?_) hK
    refine i1.le fun b => ?_
    simp only [tk]; omega
  ·-- a new row
   have hgrow : ∃ base cap olds, a.eval x = .slice base es.length cap ∧ cap < es.length + fs.length ∧ (Builtin.firstCells i.size es.length (.slice base es.length cap)).run P w.drew = .ok (List.toArray olds) w.drew ∧
     olds.length = es.length * i.size ∧ (∀ u ∈ olds, u.oneCell' = true) ∧ ∀ (g' : Gh) (B' o' : Nat), g.le g' → (∀ j u, olds[j]? = some u → g'.prot B' (o' + j) = some u) → PE g' es B' o' := by
    have k2' := k2
    simp only [VR] at k2'
    rcases k2' with ⟨rfl, _, z0, hc⟩ | ⟨B', o', cap', hc, h2, h3, h4, h5, hp⟩
    ·exact ⟨z0, 0, [], hc, by simpa using hlf, by cases z0 <;> simp [Builtin.firstCells, loadCells, loadCellsFrom], by simp, by simp, fun _ _ _ _ _ => by simp [PE]⟩
    ·obtain ⟨us', q1, q2, q3, q4⟩ := hp.cells
     have hl : us'.length = es.length * i.size := by rw [q1, hele]
     refine ⟨_, cap', us', hc, ?_, gF (w := w.drew) hl (fun j u hu => k1.inv.prot _ _ _ (q2 j u hu)), hl, q3, q4⟩
     rcases Nat.lt_or_ge cap' (es.length + fs.length) with hlt | hge
     ·exact hlt
     ·exact absurd ⟨B', o', cap', hc, hge⟩ hroom
   obtain ⟨base, cap, olds, hv, hcap, hfo, hol, hone, hlay⟩ := hgrow
   have hrun := nW (P := P) (w := w) (ty := o.type) ht hu hnd hi hz hn.len hn.cellsD hfo hcap hb2 (growslice_fits hcap hb)
   have hge := grownCap_ge w (es.length + fs.length) cap e
   generalize hC : grownCap w (es.length + fs.length) cap e = C at hrun hge
   generalize hcc : olds.toArray ++ us.toArray ++ Builtin.zeroCells z.cells (C - (es.length + fs.length)) = cc at hrun
   have hus := hn.ul
   have hccsz : cc.size = (es.length + fs.length) * i.size + (C - (es.length + fs.length)) * i.size := by
    rw [← hcc]; simp only [Array.size_append, List.size_toArray, size_zeroCells, hzs, hol, hus, Nat.add_mul]
   have hk0 : 0 < (es.length + fs.length) * i.size := Nat.mul_pos (by omega) hS
   have hcl : cc.toList = olds ++ us ++ (Builtin.zeroCells z.cells (C - (es.length + fs.length))).toList := by rw [← hcc]; simp
   have htk : cc.toList.take ((es.length + fs.length) * i.size) = olds ++ us := by
    rw [hcl, List.take_append_of_le_length (by simp [hol, hus, Nat.add_mul]), List.take_of_length_le (by simp [hol, hus, Nat.add_mul])]
   have hid := k1.inv.drew
   obtain ⟨a1, hle, a3, a4⟩ := hid.allocRow cc e ((es.length + fs.length) * i.size) (by omega)
   have a5 : Inv w0 (g.addProt w.heap.size 0 (cc.toList.take ((es.length + fs.length) * i.size))) h (fun b => n b + tk (.sl m es) (a.eval x) b + tkL (da σ x').2 a.tmps.toList b + if w.heap.size = b then 1 else 0) (w.drew.alloc (.cells cc e)) :=
    hid.allocRowTok cc e ((es.length + fs.length) * i.size) (by omega) hk0
   simp only [World.size_drew] at a1 hle a3 a4
   rw [htk] at a1 hle a3 a4 a5
   have hprot : ∀ j u, (olds ++ us)[j]? = some u → (g.addProt w.heap.size 0 (olds ++ us)).prot w.heap.size (0 + j) = some u := fun j u hu => Gh.addProt_at hu
   have hVR : VR (g.addProt w.heap.size 0 (olds ++ us)) (.sl .own (es ++ fs)) (.slice (some ⟨w.heap.size, 0, none⟩) (es.length + fs.length) C) := by
    simp only [VR]
    refine .inr ⟨w.heap.size, 0, C, by simp, by simp; omega, fun hc => by simp at hc, fun _ => by omega, huni, PE.append (hlay _ _ _ hle fun j u hj => ?_) (hn.lay _ _ _ hle fun j u hj => ?_)⟩
    ·have hjl : j < olds.length := (List.getElem?_eq_some_iff.1 hj).1
     exact hprot j u (by rw [List.getElem?_append_left hjl]; exact hj)
    ·have := hprot (olds.length + j) u (by rw [List.getElem?_append_right (by omega)]; simpa using hj)
     rw [hele, ← hol]; simpa using this
   have hOV : OV w0 (g.addProt w.heap.size 0 (olds ++ us)) (w.drew.alloc (.cells cc e)) (.sl .own (es ++ fs)) (.slice (some ⟨w.heap.size, 0, none⟩) (es.length + fs.length) C) := by
    simp only [OV]
    refine ⟨hs.inv.below.size, fun p hp' => ?_, cc, e, ?_, ?_⟩
    ·rw [hele2] at hp'
     rw [Gh.addProt_other (by simp [hol, hus, ← Nat.add_mul]; omega)]
     exact hs.inv.prot_new (Nat.le_refl _) p
    ·exact heap_alloc_new w.drew _
    ·rw [hele2, hhz, List.length_append]; omega
   refine fx (by rw [hex, hv, hrun]; rfl) hle (a3.le fun b => by omega) (SR.step (σ := (da σ x').2) (n := n) (h := h) (w := w) (g := g) ⟨k1.vl, k1.ov, k1.inv.le fun b => by omega, k1.df⟩ o.dst (VL.mono hle _ _ k1.vl) ?_ hVR hOV ?_) hK
   ·exact OVL.alloc hid _ a4 k1.vl (OVL.keep k1.ov fun _ _ => ⟨rfl, fun _ => rfl⟩)
   ·refine a5.le fun b => ?_
    by_cases hwb : w.heap.size = b
    ·have : tk (.sl .own (es ++ fs)) (.slice (some ⟨w.heap.size, 0, none⟩) (es.length + fs.length) C) b = 1 := by simp [tk, hwb]
     simp only [if_pos hwb]; omega
    ·have : tk (.sl .own (es ++ fs)) (.slice (some ⟨w.heap.size, 0, none⟩) (es.length + fs.length) C) b = 0 := by simp [tk, hwb]
     omega
end
end Go.Proofs.YtibchilpaaiecaaGreatDoor.M
