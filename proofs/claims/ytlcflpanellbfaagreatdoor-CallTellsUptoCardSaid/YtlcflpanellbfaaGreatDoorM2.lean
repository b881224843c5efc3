/- Tokens of appended slices, the invariant between abstract boxes and the machine's heap, what a contract says. -/
import Derived.Test.YtlcflpanellbfaaGreatDoorG0
set_option linter.unusedVariables false
set_option linter.unusedSimpArgs false
namespace Go.Proofs.YtlcflpanellbfaaGreatDoor.M
open Go.RowKit
inductive Bx where
  | cells (cs : List AV)
  | amap (es : List (AV × AV))
  | dead
  deriving Inhabited
abbrev AH := List Bx
mutual
def tk : AV → Value → Nat → Nat
  | .sl .own _, .slice (some a) _ _, B => if a.block = B then 1 else 0
  | .agg cs, .agg vs, B => tkL cs vs.toList B
  | .tup cs, .tuple vs, B => tkL cs vs.toList B
  | _, _, _ => 0
def tkL : List AV → List Value → Nat → Nat
  | c :: cs, v :: vs, B => tk c v B + tkL cs vs B
  | _, _, _ => 0
end
def tkB : Bx → List Value → Nat → Nat
  | .cells cs, vs, B => tkL cs vs B
  | .amap _, _, _ => 0
  | .dead, _, _ => 0
def tkBs : AH → List (List Value) → Nat → Nat
  | b :: bs, vs :: vss, B => tkB b vs B + tkBs bs vss B
  | _, _, _ => 0
def Tail (w0 : World) (g : Gh) (w : World) (B e room : Nat) : Prop :=
  w0.heap.size ≤ B ∧ (∀ o, e ≤ o → g.prot B o = none) ∧ ∃ cur t, w.heap[B]? = some (.cells cur t (0, 0)) ∧ e + room ≤ cur.size
mutual
def OV (w0 : World) (g : Gh) (w : World) : AV → Value → Prop
  | .sl .own es, .slice (some a) _ cap => Tail w0 g w a.block (a.off + elen es) ((cap - es.length) * hsz es)
  | .agg cs, .agg vs => OVL w0 g w cs vs.toList
  | .tup cs, .tuple vs => OVL w0 g w cs vs.toList
  | _, _ => True
def OVL (w0 : World) (g : Gh) (w : World) : List AV → List Value → Prop
  | c :: cs, v :: vs => OV w0 g w c v ∧ OVL w0 g w cs vs
  | _, _ => True
end
def ProtNone (g : Gh) (B : Nat) : Prop := ∀ o, g.prot B o = none
def ME (g : Gh) : List (AV × AV) → List MapEntry → Prop
  | [], es => es = []
  | (k, v) :: r, es => ∃ e es', es = e :: es' ∧ VR g k e.key ∧ VR g v e.val ∧ k.cl = true ∧ v.cl = true ∧ ME g r es'
def BoxOK (w0 : World) (g : Gh) (w : World) (i : Nat) : Bx → List Value → Prop
  | .dead, _ => True
  | .cells cs, vs => ∃ B el ex, g.bx i = some B ∧ w0.heap.size ≤ B ∧ w.heap[B]? = some (.cells (vs ++ ex).toArray el (0, 0)) ∧ VL g cs vs ∧ onesL cs = true ∧ OVL w0 g w cs vs ∧ ProtNone g B
  | .amap es, _ => ∃ B en clock, g.bx i = some B ∧ w0.heap.size ≤ B ∧ w.heap[B]? = some (.map en clock) ∧ ME g es en.toList ∧ ProtNone g B
def Gl (g : Gh) : Prop := ∀ p, p ∈ GT → PR ⟨g.prot, fun _ => none⟩ p.2 p.1 0
theorem Gl.mono {g g' : Gh} (hg : Gl g) (h : ∀ B o v, g.prot B o = some v → g'.prot B o = some v) : Gl g' := fun p hp => PR.mono (g := ⟨g.prot, fun _ => none⟩) (g' := ⟨g'.prot, fun _ => none⟩) ⟨h, fun _ _ x => x⟩ _ _ _ (hg p hp)
theorem Gl.at_ {g : Gh} (hg : Gl g) {x : Nat} {cs : List AV} (h : GT.lookup x = some cs) : PR g cs x 0 := by
  have hm : (x, cs) ∈ GT := by
    generalize GT = l at h
    induction l with
    | nil => simp at h
    | cons p l ih =>
      rw [List.lookup_cons] at h
      by_cases hx : x = p.1
      · subst hx; simp at h; subst h; simp
      · rw [show (x == p.1) = false from by simpa using hx] at h; exact List.mem_cons_of_mem _ (ih h)
  exact PR.mono (g := ⟨g.prot, fun _ => none⟩) (g' := g) ⟨fun _ _ _ x => x, fun _ _ (x : none = some _) => by cases x⟩ _ _ _ (hg _ hm)
def GW (w : World) : Prop := (∀ p, p ∈ GR → ∃ el fr, w.heap[p.1]? = some (.cells p.2.toArray el fr)) ∧ ∀ e, e ∈ GE → ∃ tp q el fr, w.heap[e]? = some (.cells #[.iface tp q] el fr)
theorem GW.below {w w' : World} (h : GW w) (hb : Below w.heap.size w w') : GW w' := by
  refine ⟨fun p hp => ?_, fun e he => ?_⟩
  · obtain ⟨el, fr, hh⟩ := h.1 p hp; exact ⟨el, fr, (hb.block _ (Array.getElem?_eq_some_iff.1 hh).1).trans hh⟩
  · obtain ⟨tp, q, el, fr, hh⟩ := h.2 e he; exact ⟨tp, q, el, fr, (hb.block _ (Array.getElem?_eq_some_iff.1 hh).1).trans hh⟩
structure Inv (w0 : World) (g : Gh) (h : AH) (n : Nat → Nat) (w : World) : Prop where
  gw : GW w0
  gl : Gl g
  below : Below w0.heap.size w0 w
  prot : ∀ B o v, g.prot B o = some v → w.cell? ⟨B, o, none⟩ = some v
  bxd : ∀ i B, g.bx i = some B → i < h.length ∧ B < w.heap.size
  inj : ∀ i j B, g.bx i = some B → g.bx j = some B → i = j
  tokp : ∀ B, 0 < n B → B < w.heap.size ∧ ∀ i b, h[i]? = some b → b ≠ .dead → g.bx i ≠ some B
  rest : ∃ bv : List (List Value), bv.length = h.length ∧ (∀ i b vs, h[i]? = some b → bv[i]? = some vs → BoxOK w0 g w i b vs) ∧ ∀ B, n B + tkBs h bv B ≤ 1
def Keep (n : Nat → Nat) (g : Gh) (w : World) (g' : Gh) (w' : World) : Prop :=
  ∀ B, 0 < n B → w'.heap[B]? = w.heap[B]? ∧ ∀ o, g'.prot B o = g.prot B o
theorem Keep.refl (n : Nat → Nat) (g : Gh) (w : World) : Keep n g w g w := fun _ _ => ⟨rfl, fun _ => rfl⟩
theorem Keep.trans {n : Nat → Nat} {g g1 g2 : Gh} {w w1 w2 : World} (h : Keep n g w g1 w1) (k : Keep n g1 w1 g2 w2) : Keep n g w g2 w2 :=
  fun B hB => ⟨(k B hB).1.trans (h B hB).1, fun o => ((k B hB).2 o).trans ((h B hB).2 o)⟩
theorem Keep.le {n m : Nat → Nat} {g g1 : Gh} {w w1 : World} (h : Keep n g w g1 w1) (hm : ∀ B, m B ≤ n B) : Keep m g w g1 w1 :=
  fun B hB => h B (Nat.lt_of_lt_of_le hB (hm B))
def Spec (P : Program) (f : FuncId) (args : List AV) (h : AH) (K : AV → AH → Prop) : Prop :=
  ∀ (w0 : World) (g : Gh) (n : Nat → Nat) (w : World) (vs : List Value), VL g args vs → clL args = true → Inv w0 g h n w →
    Calls P f vs.toArray w (fun e w' => ∃ g' r u h', e = .returned u ∧ K r h' ∧ g.le g' ∧ Keep n g w g' w' ∧ VR g' r u ∧ OV w0 g' w' r u ∧
      Inv w0 g' h' (fun B => n B + tk r u B) w')
theorem Spec.mono {P : Program} {f : FuncId} {args : List AV} {h : AH} {K K' : AV → AH → Prop} (hs : Spec P f args h K) (hk : ∀ r h', K r h' → K' r h') : Spec P f args h K' :=
  fun w0 g n w vs h1 h2 h3 => (hs w0 g n w vs h1 h2 h3).mono fun e w' ⟨g', r, u, h', a, b, rest⟩ => ⟨g', r, u, h', a, hk _ _ b, rest⟩
theorem cell?_of_heap {w w' : World} {B : Nat} (h : w'.heap[B]? = w.heap[B]?) (o : Nat) (s : Option Nat) : w'.cell? ⟨B, o, s⟩ = w.cell? ⟨B, o, s⟩ := by simp [World.cell?, h]
theorem frozen?_of_heap {w w' : World} {B : Nat} (h : w'.heap[B]? = w.heap[B]?) (o : Nat) (s : Option Nat) : w'.frozen? ⟨B, o, s⟩ = w.frozen? ⟨B, o, s⟩ := by simp [World.frozen?, h]
theorem Tail.keep {w0 w w' : World} {g g' : Gh} {B e room : Nat} (h : Tail w0 g w B e room) (h1 : w'.heap[B]? = w.heap[B]?) (h2 : ∀ o, g'.prot B o = g.prot B o) : Tail w0 g' w' B e room :=
  ⟨h.1, fun o ho => (h2 o).trans (h.2.1 o ho), by rw [h1]; exact h.2.2⟩
mutual
theorem OV.keep {w0 w w' : World} {g g' : Gh} : ∀ {v : AV} {u : Value}, OV w0 g w v u → (∀ B, 0 < tk v u B → w'.heap[B]? = w.heap[B]? ∧ ∀ o, g'.prot B o = g.prot B o) → OV w0 g' w' v u
  | .sl m es, u, h, hk => by
    cases m with
    | own =>
      cases u with
      | slice a len cap =>
        cases a with
        | none => simp [OV]
        | some a =>
          simp only [OV] at h ⊢
          obtain ⟨h1, h2⟩ := hk a.block (by simp [tk])
          exact h.keep h1 h2
      | _ => simp [OV]
    | sh => simp [OV]
    | ex => simp [OV]
  | .agg cs, u, h, hk => by
    cases u <;> simp only [OV] at h ⊢
    exact OVL.keep h (by simpa only [tk] using hk)
  | .tup cs, u, h, hk => by
    cases u <;> simp only [OV] at h ⊢
    exact OVL.keep h (by simpa only [tk] using hk)
  | .int k n, u, h, hk => by simp [OV]
  | .bool b, u, h, hk => by simp [OV]
  | .str s, u, h, hk => by simp [OV]
  | .nilp, u, h, hk => by simp [OV]
  | .box id off, u, h, hk => by simp [OV]
  | .ref cs, u, h, hk => by simp [OV]
  | .nili, u, h, hk => by simp [OV]
  | .iface t x, u, h, hk => by simp [OV]
  | .nilf, u, h, hk => by simp [OV]
  | .fn f a b, u, h, hk => by simp [OV]
  | .nilm, u, h, hk => by simp [OV]
  | .mp id, u, h, hk => by simp [OV]
  | .any, u, h, hk => by simp [OV]
  | .bs _ _ _ _, u, h, hk => by simp [OV]
theorem OVL.keep {w0 w w' : World} {g g' : Gh} : ∀ {vs : List AV} {us : List Value}, OVL w0 g w vs us → (∀ B, 0 < tkL vs us B → w'.heap[B]? = w.heap[B]? ∧ ∀ o, g'.prot B o = g.prot B o) → OVL w0 g' w' vs us
  | [], us, h, hk => by simp [OVL]
  | c :: cs, [], h, hk => by simp [OVL]
  | c :: cs, u :: us, h, hk => by
    simp only [OVL] at h ⊢
    exact ⟨OV.keep h.1 fun B hB => hk B (by simp only [tkL]; omega), OVL.keep h.2 fun B hB => hk B (by simp only [tkL]; omega)⟩
end
mutual
theorem tk_cl : ∀ {v : AV} {u : Value}, v.cl = true → ∀ B, tk v u B = 0
  | .sl m es, u, h, B => by cases m <;> simp_all [tk, AV.cl]
  | .agg cs, u, h, B => by
    cases u <;> simp only [tk]
    exact tkL_cl (by simpa [AV.cl] using h) B
  | .tup cs, u, h, B => by
    cases u <;> simp only [tk]
    exact tkL_cl (by simpa [AV.cl] using h) B
  | .int k n, u, h, B => by simp [tk]
  | .bool b, u, h, B => by simp [tk]
  | .str s, u, h, B => by simp [tk]
  | .nilp, u, h, B => by simp [tk]
  | .box id off, u, h, B => by simp [tk]
  | .ref cs, u, h, B => by simp [tk]
  | .nili, u, h, B => by simp [tk]
  | .iface t x, u, h, B => by simp [tk]
  | .nilf, u, h, B => by simp [tk]
  | .fn f a b, u, h, B => by simp [tk]
  | .nilm, u, h, B => by simp [tk]
  | .mp id, u, h, B => by simp [tk]
  | .any, u, h, B => by simp [tk]
  | .bs _ _ _ _, u, h, B => by simp [tk]
theorem tkL_cl : ∀ {vs : List AV} {us : List Value}, clL vs = true → ∀ B, tkL vs us B = 0
  | [], us, h, B => by simp [tkL]
  | c :: cs, [], h, B => by simp [tkL]
  | c :: cs, u :: us, h, B => by
    simp only [clL, Bool.and_eq_true] at h
    simp only [tkL, tk_cl h.1 B, tkL_cl h.2 B]
end
mutual
theorem OV_cl {w0 w : World} {g : Gh} : ∀ {v : AV} {u : Value}, v.cl = true → OV w0 g w v u
  | .sl m es, u, h => by cases m <;> simp_all [OV, AV.cl]
  | .agg cs, u, h => by
    cases u <;> simp only [OV]
    exact OVL_cl (by simpa [AV.cl] using h)
  | .tup cs, u, h => by
    cases u <;> simp only [OV]
    exact OVL_cl (by simpa [AV.cl] using h)
  | .int k n, u, h => by simp [OV]
  | .bool b, u, h => by simp [OV]
  | .str s, u, h => by simp [OV]
  | .nilp, u, h => by simp [OV]
  | .box id off, u, h => by simp [OV]
  | .ref cs, u, h => by simp [OV]
  | .nili, u, h => by simp [OV]
  | .iface t x, u, h => by simp [OV]
  | .nilf, u, h => by simp [OV]
  | .fn f a b, u, h => by simp [OV]
  | .nilm, u, h => by simp [OV]
  | .mp id, u, h => by simp [OV]
  | .any, u, h => by simp [OV]
  | .bs _ _ _ _, u, h => by simp [OV]
theorem OVL_cl {w0 w : World} {g : Gh} : ∀ {vs : List AV} {us : List Value}, clL vs = true → OVL w0 g w vs us
  | [], us, h => by simp [OVL]
  | c :: cs, [], h => by simp [OVL]
  | c :: cs, u :: us, h => by
    simp only [clL, Bool.and_eq_true] at h
    exact ⟨OV_cl h.1, OVL_cl h.2⟩
end
mutual
theorem cl_sh : ∀ (v : AV), v.sh.cl = true
  | .sl m es => by cases m <;> simp [AV.sh, AV.cl]
  | .agg cs => by simp only [AV.sh, AV.cl]; exact cl_shL cs
  | .tup cs => by simp only [AV.sh, AV.cl]; exact cl_shL cs
  | .int k n => by simp [AV.sh, AV.cl]
  | .bool b => by simp [AV.sh, AV.cl]
  | .str s => by simp [AV.sh, AV.cl]
  | .nilp => by simp [AV.sh, AV.cl]
  | .box id off => by simp [AV.sh, AV.cl]
  | .ref cs => by simp [AV.sh, AV.cl]
  | .nili => by simp [AV.sh, AV.cl]
  | .iface t x => by simp [AV.sh, AV.cl]
  | .nilf => by simp [AV.sh, AV.cl]
  | .fn f a b => by simp [AV.sh, AV.cl]
  | .nilm => by simp [AV.sh, AV.cl]
  | .mp id => by simp [AV.sh, AV.cl]
  | .any => by simp [AV.sh, AV.cl]
  | .bs _ _ _ _ => by simp [AV.sh, AV.cl]
theorem cl_shL : ∀ (vs : List AV), clL (shL vs) = true
  | [] => by simp [shL, clL]
  | c :: cs => by simp [shL, clL, cl_sh c, cl_shL cs]
end
theorem tkL_set {g : Gh} : ∀ {vs : List AV} {us : List Value}, VL g vs us → ∀ {i : Nat} {v v' : AV} {u u' : Value}, vs[i]? = some v → us[i]? = some u →
    ∀ B, tkL (vs.set i v') (us.set i u') B + tk v u B = tkL vs us B + tk v' u' B
  | [], us, h, i, v, v', u, u', hi, hu, B => by simp at hi
  | c :: cs, us, h, i, v, v', u, u', hi, hu, B => by
    simp only [VL] at h; obtain ⟨x, xs, rfl, _, h2⟩ := h
    cases i with
    | zero => simp at hi hu; subst hi hu; simp only [List.set_cons_zero, tkL]; omega
    | succ i =>
      have := tkL_set h2 (i := i) (v' := v') (u' := u') (by simpa using hi) (by simpa using hu) B
      simp only [List.set_cons_succ, tkL]; omega
theorem tkL_set_le {g : Gh} : ∀ {vs : List AV} {us : List Value}, VL g vs us → ∀ (i : Nat) (v' : AV) (u' : Value) (B : Nat),
    tkL (vs.set i v') (us.set i u') B ≤ tkL vs us B + tk v' u' B
  | [], us, h, i, v', u', B => by simp [tkL]
  | c :: cs, us, h, i, v', u', B => by
    simp only [VL] at h; obtain ⟨x, xs, rfl, _, h2⟩ := h
    cases i with
    | zero => simp only [List.set_cons_zero, tkL]; omega
    | succ i => have := tkL_set_le h2 i v' u' B; simp only [List.set_cons_succ, tkL]; omega
theorem tkL_get : ∀ {vs : List AV} {us : List Value} {i : Nat} {v : AV} {u : Value}, vs[i]? = some v → us[i]? = some u → ∀ B, tk v u B ≤ tkL vs us B
  | [], us, i, v, u, hi, hu, B => by simp at hi
  | c :: cs, [], i, v, u, hi, hu, B => by simp at hu
  | c :: cs, x :: xs, i, v, u, hi, hu, B => by
    cases i with
    | zero => simp at hi hu; subst hi hu; simp only [tkL]; omega
    | succ i => have := tkL_get (i := i) (by simpa using hi) (by simpa using hu) B; simp only [tkL]; omega
theorem OVL.set {w0 w : World} {g : Gh} : ∀ {vs : List AV} {us : List Value}, OVL w0 g w vs us → ∀ (i : Nat) {v : AV} {u : Value}, OV w0 g w v u → OVL w0 g w (vs.set i v) (us.set i u)
  | [], us, h, i, v, u, hv => by simp [OVL]
  | c :: cs, [], h, i, v, u, hv => by cases i <;> simp [OVL]
  | c :: cs, x :: xs, h, i, v, u, hv => by
    simp only [OVL] at h
    cases i with
    | zero => exact ⟨hv, h.2⟩
    | succ i => exact ⟨h.1, OVL.set h.2 i hv⟩
theorem OVL.get {w0 w : World} {g : Gh} : ∀ {vs : List AV} {us : List Value}, OVL w0 g w vs us → ∀ {i : Nat} {v : AV} {u : Value}, vs[i]? = some v → us[i]? = some u → OV w0 g w v u
  | [], us, h, i, v, u, hi, hu => by simp at hi
  | c :: cs, [], h, i, v, u, hi, hu => by simp at hu
  | c :: cs, x :: xs, h, i, v, u, hi, hu => by
    simp only [OVL] at h
    cases i with
    | zero => simp at hi hu; subst hi hu; exact h.1
    | succ i => exact OVL.get h.2 (by simpa using hi) (by simpa using hu)
theorem tkL_append {g : Gh} : ∀ {vs : List AV} {us : List Value}, VL g vs us → ∀ (ws : List AV) (ts : List Value) (B : Nat), tkL (vs ++ ws) (us ++ ts) B = tkL vs us B + tkL ws ts B
  | [], us, h, ws, ts, B => by simp only [VL] at h; subst h; simp [tkL]
  | c :: cs, us, h, ws, ts, B => by
    simp only [VL] at h; obtain ⟨x, xs, rfl, _, h2⟩ := h
    have := tkL_append h2 ws ts B
    simp only [List.cons_append, tkL]; omega
theorem tkBs_set : ∀ {h : AH} {bv : List (List Value)}, bv.length = h.length → ∀ {i : Nat} {b b' : Bx} {vs vs' : List Value}, h[i]? = some b → bv[i]? = some vs →
    ∀ B, tkBs (h.set i b') (bv.set i vs') B + tkB b vs B = tkBs h bv B + tkB b' vs' B
  | [], bv, hl, i, b, b', vs, vs', hi, hv, B => by simp at hi
  | c :: cs, [], hl, i, b, b', vs, vs', hi, hv, B => by simp at hv
  | c :: cs, x :: xs, hl, i, b, b', vs, vs', hi, hv, B => by
    cases i with
    | zero => simp at hi hv; subst hi hv; simp only [List.set_cons_zero, tkBs]; omega
    | succ i =>
      have := tkBs_set (h := cs) (bv := xs) (by simpa using hl) (i := i) (b' := b') (vs' := vs') (by simpa using hi) (by simpa using hv) B
      simp only [List.set_cons_succ, tkBs]; omega
theorem tkBs_append : ∀ {h : AH} {bv : List (List Value)}, bv.length = h.length → ∀ (b : Bx) (vs : List Value) (B : Nat), tkBs (h ++ [b]) (bv ++ [vs]) B = tkBs h bv B + tkB b vs B
  | [], bv, hl, b, vs, B => by
    have : bv = [] := List.eq_nil_of_length_eq_zero (by simpa using hl)
    subst this; simp [tkBs]
  | c :: cs, [], hl, b, vs, B => by simp at hl
  | c :: cs, x :: xs, hl, b, vs, B => by
    have := tkBs_append (h := cs) (bv := xs) (by simpa using hl) b vs B
    simp only [List.cons_append, tkBs]; omega
theorem tkBs_get : ∀ {h : AH} {bv : List (List Value)} {i : Nat} {b : Bx} {vs : List Value}, h[i]? = some b → bv[i]? = some vs → ∀ B, tkB b vs B ≤ tkBs h bv B
  | [], bv, i, b, vs, hi, hv, B => by simp at hi
  | c :: cs, [], i, b, vs, hi, hv, B => by simp at hv
  | c :: cs, x :: xs, i, b, vs, hi, hv, B => by
    cases i with
    | zero => simp at hi hv; subst hi hv; simp only [tkBs]; omega
    | succ i => have := tkBs_get (i := i) (by simpa using hi) (by simpa using hv) B; simp only [tkBs]; omega
theorem tk_pos_prot_sl {g : Gh} {es : List (List AV)} {a : Option Addr} {len cap : Nat} {B : Nat} (h : VR g (.sl .own es) (.slice a len cap)) (hB : 0 < tk (.sl .own es) (.slice a len cap) B) :
    ∃ o u, g.prot B o = some u := by
  simp only [VR] at h
  rcases h with ⟨_, h2, _⟩ | ⟨B1, o, cp, he, _, _, h4, h5, hp⟩
  · exact absurd rfl h2
  · simp only [Value.slice.injEq] at he
    obtain ⟨rfl, rfl, rfl⟩ := he
    have : B1 = B := by simp only [tk] at hB; split at hB <;> simp_all
    subst this
    have h4 := h4 trivial
    cases es with
    | nil => simp [hsz] at h4
    | cons e es =>
      simp only [hsz] at h4
      simp only [PE] at hp
      obtain ⟨u, hu, _⟩ := PR.at_ hp.1 (i := 0) (c := e[0]) (by simp [h4])
      exact ⟨_, u, hu⟩
mutual
theorem tk_pos_prot {g : Gh} : ∀ {v : AV} {u : Value} {B : Nat}, VR g v u → 0 < tk v u B → ∃ o x, g.prot B o = some x
  | .sl m es, u, B, h, hB => by
    cases m with
    | own =>
      cases u with
      | slice a len cap => exact tk_pos_prot_sl h hB
      | _ => simp [tk] at hB
    | sh => simp [tk] at hB
    | ex => simp [tk] at hB
  | .agg cs, u, B, h, hB => by
    simp only [VR] at h; obtain ⟨vs, rfl, hv, _⟩ := h
    exact tkL_pos_prot hv (by simpa only [tk] using hB)
  | .tup cs, u, B, h, hB => by
    simp only [VR] at h; obtain ⟨vs, rfl, hv⟩ := h
    exact tkL_pos_prot hv (by simpa only [tk] using hB)
  | .int k n, u, B, h, hB => by simp [tk] at hB
  | .bool b, u, B, h, hB => by simp [tk] at hB
  | .str s, u, B, h, hB => by simp [tk] at hB
  | .nilp, u, B, h, hB => by simp [tk] at hB
  | .box id off, u, B, h, hB => by simp [tk] at hB
  | .ref cs, u, B, h, hB => by simp [tk] at hB
  | .nili, u, B, h, hB => by simp [tk] at hB
  | .iface t x, u, B, h, hB => by simp [tk] at hB
  | .nilf, u, B, h, hB => by simp [tk] at hB
  | .fn f a b, u, B, h, hB => by simp [tk] at hB
  | .nilm, u, B, h, hB => by simp [tk] at hB
  | .mp id, u, B, h, hB => by simp [tk] at hB
  | .any, u, B, h, hB => by simp [tk] at hB
  | .bs _ _ _ _, u, B, h, hB => by simp [tk] at hB
theorem tkL_pos_prot {g : Gh} : ∀ {vs : List AV} {us : List Value} {B : Nat}, VL g vs us → 0 < tkL vs us B → ∃ o x, g.prot B o = some x
  | [], us, B, h, hB => by simp [tkL] at hB
  | c :: cs, us, B, h, hB => by
    simp only [VL] at h; obtain ⟨x, xs, rfl, h1, h2⟩ := h
    simp only [tkL] at hB
    by_cases hc : 0 < tk c x B
    · exact tk_pos_prot h1 hc
    · exact tkL_pos_prot h2 (by omega)
end
theorem Inv.le {w0 w : World} {g : Gh} {h : AH} {n m : Nat → Nat} (hi : Inv w0 g h n w) (hm : ∀ B, m B ≤ n B) : Inv w0 g h m w :=
  ⟨hi.gw, hi.gl, hi.below, hi.prot, hi.bxd, hi.inj, fun B hB => hi.tokp B (Nat.lt_of_lt_of_le hB (hm B)), let ⟨bv, h1, h2, h3⟩ := hi.rest; ⟨bv, h1, h2, fun B => Nat.le_trans (Nat.add_le_add_right (hm B) _) (h3 B)⟩⟩
theorem Inv.block_lt {w0 w : World} {g : Gh} {h : AH} {n : Nat → Nat} (hi : Inv w0 g h n w) {B o : Nat} {v : Value} (hp : g.prot B o = some v) : B < w.heap.size :=
  World.block_lt_of_cell? w ⟨B, o, none⟩ (hi.prot B o v hp)
theorem Inv.drew {w0 w : World} {g : Gh} {h : AH} {n : Nat → Nat} (hi : Inv w0 g h n w) : Inv w0 g h n w.drew := by
  obtain ⟨gw, gl, a, b, c, d, tp, bv, e, f, k⟩ := hi
  refine ⟨gw, gl, a.drew, b, c, d, tp, bv, e, fun i x vs hx hv => ?_, k⟩
  have := f i x vs hx hv
  cases x with
  | cells cs =>
    obtain ⟨B, el, ex, h1, h2, h3, h4, ho, h5, h6⟩ := this
    exact ⟨B, el, ex, h1, h2, h3, h4, ho, OVL.keep h5 (fun _ _ => ⟨rfl, fun _ => rfl⟩), h6⟩
  | amap es => exact this
  | dead => trivial
end Go.Proofs.YtlcflpanellbfaaGreatDoor.M
