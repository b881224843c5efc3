/- Operations that move tokens or change boxes: moves, new boxes, stores, append. -/
import Derived.Test.YtlcflpanellbfaaGreatDoorM5
import Derived.Laws.AppendOwn
set_option linter.unusedVariables false
set_option linter.unusedSimpArgs false
namespace Go.Proofs.YtlcflpanellbfaaGreatDoor.M
open Go.RowKit
def moveO (σ : List AV) : Opd → AV × List AV
  | .tmp t => (σ.getD t undefA, σ.set t (σ.getD t undefA).sh)
  | .con v => (v, σ)
section
variable {P : Program} {w0 w : World} {ds : List Deferred} {g : Gh} {h : AH} {n : Nat → Nat} {σ : List AV} {a : Act}
theorem lit_cl {v : Value} {x : AV} (h : lit v = some x) : x.cl = true := by
  unfold lit at h; split at h <;> cases h <;> rfl
theorem SR.moveO (hs : SR ds w0 g n σ h a w) {x : Operand} {y : Opd} (hc : compO x = some y) :
    SR ds w0 g (fun B => n B + tk (moveO σ y).1 (a.eval x) B) (moveO σ y).2 h a w ∧ VR g (moveO σ y).1 (a.eval x) ∧ OV w0 g w (moveO σ y).1 (a.eval x) := by
  have hv := compO_VR hs.inv.gl hs.vl hc
  cases x with
  | tmp t =>
    simp only [compO, Option.some.injEq] at hc; subst hc
    cases e : σ[t]? with
    | none =>
      have h1 : a.tmps[t]? = none := by
        have := VL.length hs.vl
        rw [List.getElem?_eq_none_iff] at e
        rw [Array.getElem?_eq_none_iff]
        simp at this; omega
      have h2 : σ.set t (σ.getD t undefA).sh = σ := List.set_eq_of_length_le (by rw [List.getElem?_eq_none_iff] at e; exact e)
      have h3 : σ.getD t undefA = undefA := by simp [List.getD, e]
      rw [h3] at h2
      simp only [M.moveO, h3, h2]
      refine ⟨⟨hs.vl, hs.ov, hs.inv.le fun B => ?_, hs.df⟩, ?_, ?_⟩
      · rw [tk_cl (by rfl)]; omega
      · simp only [evalO, h3] at hv; exact hv
      · exact OV_cl rfl
    | some v =>
      have hl := VL.length hs.vl
      have hlt : t < a.tmps.size := by rw [Array.length_toList] at hl; rw [hl]; exact (List.getElem?_eq_some_iff.1 e).1
      have hu : a.tmps[t]? = some a.tmps[t] := by simp [hlt]
      have hev : a.eval (.tmp t) = a.tmps[t] := by simp [Act.eval, hlt]
      have h3 : σ.getD t undefA = v := by simp [List.getD, e]
      obtain ⟨k1, k2, k3, k4, k5⟩ := hs.shl e hu
      simp only [M.moveO, h3, hev]
      exact ⟨⟨k1, k2, hs.inv.le fun B => by have := k3 B; omega, hs.df⟩, k5, k4⟩
  | const v =>
    simp only [compO] at hc
    split at hc
    · rename_i b hb
      cases hc
      have hcl := lit_cl hb
      exact ⟨⟨hs.vl, hs.ov, hs.inv.le fun B => by simp only [M.moveO]; rw [tk_cl hcl]; omega, hs.df⟩, hv, OV_cl hcl⟩
    · cases hc
  | func f =>
    simp only [compO, Option.some.injEq] at hc; subst hc
    exact ⟨⟨hs.vl, hs.ov, hs.inv.le fun B => by simp only [M.moveO]; rw [tk_cl rfl]; omega, hs.df⟩, hv, OV_cl rfl⟩
  | global x =>
    simp only [compO] at hc
    split at hc
    · rename_i cs hx
      cases hc
      exact ⟨⟨hs.vl, hs.ov, hs.inv.le fun B => by simp only [M.moveO]; rw [tk_cl rfl]; omega, hs.df⟩, hv, OV_cl rfl⟩
    · cases hc
theorem op_step {o : Oper} {K : List AV → AH → Prop} {Q : Exit → Act → World → Prop} {w' : World} {g' : Gh} {σ' : List AV} {h' : AH} {u : Value}
    (hr : (execOp a.eval o).run P w = .ok (.value u) w') (hg : g.le g') (hk : Keep n g w g' w') (hs : SR ds w0 g' n σ' h' (a.put o.dst u) w') (hK : K σ' h') : o.wp P a w (OpPost ds w0 g n w K) Q := by
  unfold Oper.wp
  rw [hr, Oper.upon_value]
  exact ⟨g', σ', h', hK, hg, hk, hs⟩
theorem op_skip {o : Oper} {K : List AV → AH → Prop} {Q : Exit → Act → World → Prop} {w' : World} {g' : Gh} {σ' : List AV} {h' : AH}
    (hr : (execOp a.eval o).run P w = .ok .skip w') (hd : o.dst = none) (hg : g.le g') (hk : Keep n g w g' w') (hs : SR ds w0 g' n σ' h' a w') (hK : K σ' h') : o.wp P a w (OpPost ds w0 g n w K) Q := by
  unfold Oper.wp
  rw [hr, Oper.upon_skip, hd]
  exact ⟨g', σ', h', hK, hg, hk, hs⟩
theorem take_sound {o : Oper} {K : List AV → AH → Prop} {Q : Exit → Act → World → Prop} {x : Operand} {y : Opd} (ho : o.op = .assign x ∨ o.op = .move x) (hc : compO x = some y) (hs : SR ds w0 g n σ h a w)
    (hK : K (putA (moveO σ y).2 o.dst (moveO σ y).1) h) : o.wp P a w (OpPost ds w0 g n w K) Q := by
  obtain ⟨k1, k2, k3⟩ := hs.moveO hc
  have hr : (execOp a.eval o).run P w = .ok (.value (a.eval x)) w := by rcases ho with ho | ho <;> simp [execOp, ho]
  have hs' : SR ds w0 g n (moveO σ y).2 h a w := ⟨k1.vl, k1.ov, k1.inv.le fun B => by omega, k1.df⟩
  refine op_step hr (Gh.le.refl g) (Keep.refl _ _ _) (hs'.step o.dst k1.vl k1.ov k2 k3 (k1.inv.le fun B => by omega)) hK
theorem cells_VL {v : AV} {u : Value} (hv : VR g v u) (ho : onesL v.cells = true) : VL g v.cells u.cells.toList := by
  cases v <;> simp only [AV.cells] at ho ⊢ <;> simp only [VR] at hv
  case agg cs => obtain ⟨vs, rfl, h1, _⟩ := hv; exact h1
  case tup cs => simp [onesL, AV.one] at ho
  case int => subst hv; exact ⟨_, [], rfl, by simp [VR], rfl⟩
  case bool => subst hv; exact ⟨_, [], rfl, by simp [VR], rfl⟩
  case str => subst hv; exact ⟨_, [], rfl, by simp [VR], rfl⟩
  case nilp => subst hv; exact ⟨_, [], rfl, by simp [VR], rfl⟩
  case box => obtain ⟨B, h1, rfl⟩ := hv; exact ⟨_, [], rfl, ⟨B, h1, rfl⟩, rfl⟩
  case ref => obtain ⟨B, o, rfl, h1⟩ := hv; exact ⟨_, [], rfl, ⟨B, o, rfl, h1⟩, rfl⟩
  case sl m es =>
    rcases hv with ⟨h1, h2, z0, rfl⟩ | ⟨B, o, cap, rfl, h1⟩
    · exact ⟨_, [], rfl, by simp only [VR]; exact .inl ⟨h1, h2, z0, rfl⟩, rfl⟩
    · exact ⟨_, [], rfl, by simp only [VR]; exact .inr ⟨B, o, cap, rfl, h1⟩, rfl⟩
  case nili => subst hv; exact ⟨_, [], rfl, by simp [VR], rfl⟩
  case iface => obtain ⟨x, rfl, h1⟩ := hv; exact ⟨_, [], rfl, ⟨x, rfl, h1⟩, rfl⟩
  case nilf => subst hv; exact ⟨_, [], rfl, by simp [VR], rfl⟩
  case fn => obtain ⟨x, y, rfl, h1⟩ := hv; exact ⟨_, [], rfl, ⟨x, y, rfl, h1⟩, rfl⟩
  case nilm => subst hv; exact ⟨_, [], rfl, by simp [VR], rfl⟩
  case mp => obtain ⟨B, h1, rfl⟩ := hv; exact ⟨_, [], rfl, ⟨B, h1, rfl⟩, rfl⟩
  case any => simp [AV.cells, onesL, AV.one] at ho
  case bs => obtain ⟨B, C, o, h1, rfl, h2⟩ := hv; exact ⟨_, [], rfl, ⟨B, C, o, h1, rfl, h2⟩, rfl⟩
theorem cells_tk {v : AV} {u : Value} (hv : VR g v u) (ho : onesL v.cells = true) (B : Nat) : tkL v.cells u.cells.toList B = tk v u B := by
  cases v <;> simp only [AV.cells] at ho ⊢ <;> simp only [VR] at hv
  case agg cs => obtain ⟨vs, rfl, h1, _⟩ := hv; simp [tk, Value.cells]
  case tup cs => simp [onesL, AV.one] at ho
  case int => subst hv; simp [tkL, tk, Value.cells]
  case bool => subst hv; simp [tkL, tk, Value.cells]
  case str => subst hv; simp [tkL, tk, Value.cells]
  case nilp => subst hv; simp [tkL, tk, Value.cells]
  case box => obtain ⟨B, h1, rfl⟩ := hv; simp [tkL, tk, Value.cells]
  case ref => obtain ⟨B, o, rfl, h1⟩ := hv; simp [tkL, tk, Value.cells]
  case sl m es =>
    rcases hv with ⟨h1, h2, z0, rfl⟩ | ⟨B, o, cap, rfl, h1⟩ <;> simp [tkL, Value.cells]
  case nili => subst hv; simp [tkL, tk, Value.cells]
  case iface => obtain ⟨x, rfl, h1⟩ := hv; simp [tkL, tk, Value.cells]
  case nilf => subst hv; simp [tkL, tk, Value.cells]
  case fn => obtain ⟨x, y, rfl, h1⟩ := hv; simp [tkL, tk, Value.cells]
  case nilm => subst hv; simp [tkL, tk, Value.cells]
  case mp => obtain ⟨B, h1, rfl⟩ := hv; simp [tkL, tk, Value.cells]
  case any => simp [AV.cells, onesL, AV.one] at ho
  case bs => obtain ⟨B, C, o, h1, rfl, h2⟩ := hv; simp [tkL, tk, Value.cells]
theorem cells_OV {v : AV} {u : Value} (hv : VR g v u) (ho : onesL v.cells = true) (hov : OV w0 g w v u) : OVL w0 g w v.cells u.cells.toList := by
  cases v <;> simp only [AV.cells] at ho ⊢ <;> simp only [VR] at hv
  case agg cs => obtain ⟨vs, rfl, h1, _⟩ := hv; simpa [OV, Value.cells] using hov
  case tup cs => simp [onesL, AV.one] at ho
  case sl m es =>
    rcases hv with ⟨h1, h2, z0, rfl⟩ | ⟨B, o, cap, rfl, h1⟩ <;> exact ⟨hov, by simp [OVL]⟩
  all_goals exact OVL_cl (by simp [clL, AV.cl])
theorem newBox_sound {o : Oper} {K : List AV → AH → Prop} {Q : Exit → Act → World → Prop} {el : TypeId} {σ1 : List AV} {cs : List AV} {vs : List Value}
    (hr : (execOp a.eval o).run P w = .ok (.value (.pointer (some ⟨w.heap.size, 0, none⟩))) (w.alloc (.cells vs.toArray el)))
    (hs : SR ds w0 g (fun B => n B + tkL cs vs B) σ1 h a w) (hv : VL g cs vs) (ho : onesL cs = true) (hov : OVL w0 g w cs vs)
    (hK : K (putA σ1 o.dst (.box h.length 0)) (h ++ [.cells cs])) : o.wp P a w (OpPost ds w0 g n w K) Q := by
  have hle : g.le (g.addBox h.length w.heap.size) := Gh.le_addBox hs.inv.bx_none
  have hp : ∀ B p, B ≠ w.heap.size → (g.addBox h.length w.heap.size).prot B p = g.prot B p := fun _ _ _ => rfl
  have hi := hs.inv.allocBox (n' := fun B => n B + tkL σ1 a.tmps.toList B) el hv ho hov (fun B => by omega)
  have hk : Keep n g w (g.addBox h.length w.heap.size) (w.alloc (.cells vs.toArray el)) := (hs.inv.keepAlloc _ hp).le fun B => by omega
  have hs' : SR ds w0 (g.addBox h.length w.heap.size) n σ1 (h ++ [.cells cs]) a (w.alloc (.cells vs.toArray el)) :=
    ⟨VL.mono hle _ _ hs.vl, OVL.alloc hs.inv _ hp hs.vl hs.ov, hi, hs.df⟩
  refine op_step hr hle hk (hs'.put o.dst (v := .box h.length 0) ⟨w.heap.size, by simp [Gh.addBox], rfl⟩ rfl) hK
theorem box_sound {o : Oper} {K : List AV → AH → Prop} {Q : Exit → Act → World → Prop} {el : TypeId} {x : Operand} {y : Opd} (hop : o.op = .box el x) (hc : compO x = some y) (hs : SR ds w0 g n σ h a w)
    (ho : onesL (moveO σ y).1.cells = true) (hK : K (putA (moveO σ y).2 o.dst (.box h.length 0)) (h ++ [.cells (moveO σ y).1.cells])) : o.wp P a w (OpPost ds w0 g n w K) Q := by
  obtain ⟨k1, k2, k3⟩ := hs.moveO hc
  refine newBox_sound (el := el) (vs := (a.eval x).cells.toList) ?_ (σ1 := (moveO σ y).2) ?_ (cells_VL k2 ho) ho (cells_OV k2 ho k3) hK
  · simp [execOp, hop, Instr.box, newVar, newRow]
  · exact ⟨k1.vl, k1.ov, k1.inv.le fun B => by rw [cells_tk k2 ho]; omega, k1.df⟩
theorem alloc_sound {o : Oper} {K : List AV → AH → Prop} {Q : Exit → Act → World → Prop} {el : TypeId} {i : TypeInfo} {z : Value} {cs : List AV} (hop : o.op = .alloc el) (hi : P.info? el = some i) (hz : i.zero = some z) (hl : litC z = some cs)
    (hs : SR ds w0 g n σ h a w) (hK : K (putA σ o.dst (.box h.length 0)) (h ++ [.cells cs])) : o.wp P a w (OpPost ds w0 g n w K) Q := by
  obtain ⟨h1, h2, h3⟩ := litC_VL (g := g) hl
  refine newBox_sound (el := el) (vs := z.cells.toList) ?_ (σ1 := σ) ⟨hs.vl, hs.ov, hs.inv.le fun B => by rw [tkL_cl h2]; omega, hs.df⟩ h1 h3 (OVL_cl h2) hK
  simp [execOp, hop, Instr.alloc, zeroValue, typeInfo, hi, hz, newVar, newRow]
def ovl {α : Type} (l : List α) (o : Nat) (vs : List α) : List α := l.take o ++ vs ++ l.drop (o + vs.length)
theorem ovl_VL {cs ds : List AV} {us vs : List Value} (h : VL g cs us) (k : VL g ds vs) (o : Nat) : VL g (ovl cs o ds) (ovl us o vs) := by
  unfold ovl
  rw [VL.length k]
  exact VL.append (VL.append (VL.take h o) k) (VL.drop h _)
theorem ovl_ones {cs ds : List AV} (h : onesL cs = true) (k : onesL ds = true) (o : Nat) : onesL (ovl cs o ds) = true := by
  refine onesL_mk fun c hc => ?_
  unfold ovl at hc
  rw [List.append_assoc, List.mem_append, List.mem_append] at hc
  rcases hc with hc | hc | hc
  · exact onesL_mem h c (List.mem_of_mem_take hc)
  · exact onesL_mem k c hc
  · exact onesL_mem h c (List.mem_of_mem_drop hc)
theorem tkL_split {cs : List AV} {us : List Value} (h : VL g cs us) (o : Nat) (B : Nat) : tkL cs us B = tkL (cs.take o) (us.take o) B + tkL (cs.drop o) (us.drop o) B := by
  have := tkL_append (VL.take h o) (cs.drop o) (us.drop o) B
  rw [List.take_append_drop, List.take_append_drop] at this
  exact this
theorem ovl_tk {cs ds : List AV} {us vs : List Value} (h : VL g cs us) (k : VL g ds vs) (o : Nat) (B : Nat) : tkL (ovl cs o ds) (ovl us o vs) B ≤ tkL cs us B + tkL ds vs B := by
  unfold ovl
  rw [VL.length k, tkL_append (VL.append (VL.take h o) k), tkL_append (VL.take h o)]
  have h1 := tkL_split h o B
  have h2 := tkL_split (VL.drop h o) ds.length B
  rw [List.drop_drop, List.drop_drop] at h2
  omega
theorem OVL.append' : ∀ {cs ds : List AV} {us vs : List Value}, VL g cs us → OVL w0 g w cs us → OVL w0 g w ds vs → OVL w0 g w (cs ++ ds) (us ++ vs)
  | [], ds, us, vs, h, h1, h2 => by simp only [VL] at h; subst h; simpa using h2
  | c :: cs, ds, us, vs, h, h1, h2 => by
    simp only [VL] at h; obtain ⟨x, xs, rfl, _, hr⟩ := h
    simp only [OVL] at h1
    exact ⟨h1.1, OVL.append' hr h1.2 h2⟩
theorem OVL.take : ∀ {cs : List AV} {us : List Value}, OVL w0 g w cs us → ∀ o, OVL w0 g w (cs.take o) (us.take o)
  | [], us, h, o => by simp [OVL]
  | c :: cs, [], h, o => by cases o <;> simp [OVL]
  | c :: cs, u :: us, h, 0 => by simp [OVL]
  | c :: cs, u :: us, h, o + 1 => by simp only [OVL] at h; exact ⟨h.1, OVL.take h.2 o⟩
theorem OVL.drop : ∀ {cs : List AV} {us : List Value}, OVL w0 g w cs us → ∀ o, OVL w0 g w (cs.drop o) (us.drop o)
  | [], us, h, o => by simp [OVL]
  | c :: cs, [], h, o => by cases o <;> simp [OVL] <;> (cases (List.drop _ cs) <;> simp [OVL])
  | c :: cs, u :: us, h, 0 => h
  | c :: cs, u :: us, h, o + 1 => by simp only [OVL] at h; exact OVL.drop h.2 o
theorem ovl_OVL {cs ds : List AV} {us vs : List Value} (h : VL g cs us) (k : VL g ds vs) (h1 : OVL w0 g w cs us) (h2 : OVL w0 g w ds vs) (o : Nat) : OVL w0 g w (ovl cs o ds) (ovl us o vs) := by
  unfold ovl
  rw [VL.length k]
  exact OVL.append' (VL.append (VL.take h o) k) (OVL.append' (VL.take h o) (OVL.take h1 o) h2) (OVL.drop h1 _)
def storeW (N : Nat) (σ : List AV) (h : AH) (x y : Opd) (K : List AV → AH → Prop) : Prop :=
  match evalO σ x with
  | .box id off => ∃ cs, h[id]? = some (.cells cs) ∧ off + N ≤ cs.length ∧ (moveO σ y).1.cells.length = N ∧ onesL (moveO σ y).1.cells = true ∧
      K (moveO σ y).2 (h.set id (.cells (ovl cs off (moveO σ y).1.cells)))
  | _ => False
theorem run_storeVar_at {t : TypeId} {B o N : Nat} {el : TypeId} {cur : Array Value} {v : Value} (hsz : (P.info? t).map (·.size) = some N) (hN : v.cells.size = N) (hh : w.heap[B]? = some (.cells cur el (0, 0)))
    (hle : o + N ≤ cur.size) (h1 : ∀ x ∈ v.cells.toList, x.oneCell' = true) : (storeVar t ⟨B, o, none⟩ v).run P w = .ok () (w.setRow B (ovl cur.toList o v.cells.toList).toArray) := by
  have := run_storeCells_at P B o el v.cells.toList 0 cur w hh (by simp; omega) h1
  simp only [storeVar, Sem.run_bind, run_sizeOf_of hsz, Result.andThen_ok]
  simp only [hN, ne_eq, not_true_eq_false, if_false]
  simpa [ovl] using this
theorem VL.ones {cs : List AV} {us : List Value} : VL g cs us → onesL cs = true → ∀ x ∈ us, x.oneCell' = true := by
  induction cs generalizing us with
  | nil => intro h _ x hx; simp only [VL] at h; subst h; simp at hx
  | cons c cs ih =>
    intro h ho x hx
    simp only [VL] at h; obtain ⟨u, us, rfl, h1, h2⟩ := h
    simp only [onesL, Bool.and_eq_true] at ho
    rcases List.mem_cons.1 hx with rfl | hx
    · exact h1.oneCell ho.1
    · exact ih h2 ho.2 x hx
theorem Inv.boxOf (hi : Inv w0 g h n w) {id B : Nat} {cs : List AV} (hc : h[id]? = some (.cells cs)) (hB : g.bx id = some B) :
    ∃ vs el ex, w0.heap.size ≤ B ∧ w.heap[B]? = some (.cells (vs ++ ex).toArray el (0, 0)) ∧ VL g cs vs ∧ onesL cs = true ∧ OVL w0 g w cs vs ∧ ProtNone g B := by
  obtain ⟨bv, e1, e2, e3⟩ := hi.rest
  have hil : id < h.length := (List.getElem?_eq_some_iff.1 hc).1
  obtain ⟨vs, hvs⟩ : ∃ vs, bv[id]? = some vs := ⟨bv[id], by simp [e1, hil]⟩
  obtain ⟨B', el, ex, h1, h2, h3, h4, ho, h5, h6⟩ := e2 id _ vs hc hvs
  rw [hB] at h1; cases h1
  exact ⟨vs, el, ex, h2, h3, h4, ho, h5, h6⟩
theorem store_sound {o : Oper} {K : List AV → AH → Prop} {Q : Exit → Act → World → Prop} {t : TypeId} {N : Nat} {x v : Operand} {x' v' : Opd} (hop : o.op = .store t x v) (hd : o.dst = none) (hx : compO x = some x') (hv : compO v = some v')
    (hsz : (P.info? t).map (·.size) = some N) (hs : SR ds w0 g n σ h a w) (hk : storeW N σ h x' v' K) : o.wp P a w (OpPost ds w0 g n w K) Q := by
  have hxv := compO_VR hs.inv.gl hs.vl hx
  obtain ⟨k1, k2, k3⟩ := hs.moveO hv
  unfold storeW at hk
  split at hk <;> try (exact hk.elim)
  rename_i id off hex
  obtain ⟨cs, hc, hle, hN, ho, hK⟩ := hk
  rw [hex] at hxv
  obtain ⟨B, hB, hxe⟩ := hxv
  obtain ⟨vs, el, ex, b1, b2, b3, b4, b5, b6⟩ := hs.inv.boxOf hc hB
  have hcv := cells_VL k2 ho
  have hl1 := VL.length hcv
  have hl2 := VL.length b3
  have hrun := run_storeVar_at (P := P) (w := w) (t := t) (B := B) (o := off) (N := N) (v := a.eval v) hsz (by simp at hl1; omega) b2 (by simp; omega) (hcv.ones ho)
  have hoe : ovl (vs ++ ex) off (a.eval v).cells.toList = ovl vs off (a.eval v).cells.toList ++ ex := by
    unfold ovl
    rw [List.take_append_of_le_length (by omega), List.drop_append_of_le_length (by omega)]
    simp only [List.append_assoc]
  simp only [hoe] at hrun
  have htok : ∀ b, 0 < n b + tkL (moveO σ v').2 a.tmps.toList b → b < w.heap.size ∧ ∀ i x, h[i]? = some x → x ≠ .dead → g.bx i ≠ some b := by
    intro b hb
    exact k1.inv.tokp b (by omega)
  obtain ⟨i1, i2, i3⟩ := k1.inv.storeBox (n' := fun b => n b + tkL (moveO σ v').2 a.tmps.toList b) hc hB hl2 b2 (ovl_VL b3 hcv off) (ovl_ones b4 ho off) (ovl_OVL b3 hcv b5 (cells_OV k2 ho k3) off)
    (fun b => by have := ovl_tk b3 hcv off b; rw [cells_tk k2 ho] at this; omega) htok
  refine op_skip (w' := w.setRow B (ovl vs off (a.eval v).cells.toList ++ ex).toArray) (g' := g) ?_ hd (Gh.le.refl g) (i2.le fun B => by omega) ⟨k1.vl, i3 _ _ k1.vl k1.ov, i1, k1.df⟩ hK
  simp [execOp, hop, Instr.storeAt, hxe, Instr.sureAddr, hrun]
end
end Go.Proofs.YtlcflpanellbfaaGreatDoor.M
