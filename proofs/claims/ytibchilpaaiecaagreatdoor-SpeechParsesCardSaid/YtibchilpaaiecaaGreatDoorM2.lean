/- Tokens of appended slices, the invariant between abstract boxes and the machine's heap, what a contract says. -/
import Derived.Test.YtibchilpaaiecaaGreatDoorG0
import Derived.Laws.CopyRow
import Derived.Laws.Tables
set_option linter.unusedVariables false
set_option linter.unusedSimpArgs false
namespace Go.Proofs.YtibchilpaaiecaaGreatDoor.M
open Go.RowKit
inductive Bx where
 | cells (cs : List AV)
 | amap (es : List (AV × AV))
 | dead
 deriving Inhabited
abbrev AH := List Bx
mutual
def tk : AV → Value → Nat → Nat
 | .sl .own _, .slice (some a) _ _, B => if a.block = B then 1 else 0
 | .agg cs, .agg vs, B => tkL cs vs.toList B
 | .tup cs, .tuple vs, B => tkL cs vs.toList B
 | _, _, _ => 0
def tkL : List AV → List Value → Nat → Nat
 | c :: cs, v :: vs, B => tk c v B + tkL cs vs B
 | _, _, _ => 0
end
def tkB : Bx → List Value → Nat → Nat
 | .cells cs, vs, B => tkL cs vs B
 | .amap _, _, _ => 0
 | .dead, _, _ => 0
def tkBs : AH → List (List Value) → Nat → Nat
 | b :: bs, vs :: vss, B => tkB b vs B + tkBs bs vss B
 | _, _, _ => 0
def Tail (w0 : World) (g : Gh) (w : World) (B e room : Nat) : Prop :=
 w0.heap.size ≤ B ∧ (∀ o, e ≤ o → g.prot B o = none) ∧ ∃ cur t, w.heap[B]? = some (.cells cur t (0, 0)) ∧ e + room ≤ cur.size
mutual
def OV (w0 : World) (g : Gh) (w : World) : AV → Value → Prop
 | .sl .own es, .slice (some a) _ cap => Tail w0 g w a.block (a.off + elen es) ((cap - es.length) * hsz es)
 | .agg cs, .agg vs => OVL w0 g w cs vs.toList
 | .tup cs, .tuple vs => OVL w0 g w cs vs.toList
 | _, _ => True
def OVL (w0 : World) (g : Gh) (w : World) : List AV → List Value → Prop
 | c :: cs, v :: vs => OV w0 g w c v ∧ OVL w0 g w cs vs
 | _, _ => True
end
def gS (g : Gh) (B : Nat) : Prop := ∀ o, g.prot B o = none
def ME (g : Gh) : List (AV × AV) → List MapEntry → Prop
 | [], es => es = []
 | (k, v) :: r, es => ∃ e es', es = e :: es' ∧ VR g k e.key ∧ VR g v e.val ∧ k.cl = true ∧ v.cl = true ∧ ME g r es'
def oJ (w0 : World) (g : Gh) (w : World) (i : Nat) : Bx → List Value → Prop
 | .dead, _ => True
 | .cells cs, vs => ∃ B el ex, g.bx i = some B ∧ w0.heap.size ≤ B ∧ w.heap[B]? = some (.cells (vs ++ ex).toArray el (0, 0)) ∧ VL g cs vs ∧ aM cs = true ∧ OVL w0 g w cs vs ∧ gS g B
 | .amap es, _ => ∃ B en clock, g.bx i = some B ∧ w0.heap.size ≤ B ∧ w.heap[B]? = some (.map en clock) ∧ ME g es en.toList ∧ gS g B
def Gl (g : Gh) : Prop := ∀ p, p ∈ GT → PR ⟨g.prot, fun _ => none⟩ p.2 p.1 0
theorem Gl.mono {g g' : Gh} (hg : Gl g) (h : ∀ B o v, g.prot B o = some v → g'.prot B o = some v) : Gl g' := fun p hp => PR.mono (g := ⟨g.prot, fun _ => none⟩) (g' := ⟨g'.prot, fun _ => none⟩) ⟨h, fun _ _ x => x⟩ _ _ _ (hg p hp)
theorem Gl.at_ {g : Gh} (hg : Gl g) {x : Nat} {cs : List AV} (h : GT.lookup x = some cs) : PR g cs x 0 := by
 have hm : (x, cs) ∈ GT := by
  generalize GT = l at h
  induction l with
  | nil => simp at h
  | cons p l ih =>
   rw [List.lookup_cons] at h
   by_cases hx : x = p.1
   ·subst hx; simp at h; subst h; simp
   ·rw [show (x == p.1) = false from by simpa using hx] at h; exact List.mem_cons_of_mem _ (ih h)
 exact PR.mono (g := ⟨g.prot, fun _ => none⟩) (g' := g) ⟨fun _ _ _ x => x, fun _ _ (x : none = some _) => by cases x⟩ _ _ _ (hg _ hm)
def GW (w : World) : Prop := (∀ p, p ∈ GR → ∃ el fr, w.heap[p.1]? = some (.cells p.2.toArray el fr)) ∧ ∀ e, e ∈ GE → ∃ tp q el fr, w.heap[e]? = some (.cells #[.iface tp q] el fr)
theorem GW.below {w w' : World} (h : GW w) (hb : Below w.heap.size w w') : GW w' := by
 refine ⟨fun p hp => ?_, fun e he => ?_⟩
 ·obtain ⟨el, fr, hh⟩ := h.1 p hp; exact ⟨el, fr, (hb.block _ (Array.getElem?_eq_some_iff.1 hh).1).trans hh⟩
 ·obtain ⟨tp, q, el, fr, hh⟩ := h.2 e he; exact ⟨tp, q, el, fr, (hb.block _ (Array.getElem?_eq_some_iff.1 hh).1).trans hh⟩
structure Inv (w0 : World) (g : Gh) (h : AH) (n : Nat → Nat) (w : World) : Prop where
 gw : GW w0
 gl : Gl g
 below : Below w0.heap.size w0 w
 prot : ∀ B o v, g.prot B o = some v → w.cell? ⟨B, o, none⟩ = some v
 bxd : ∀ i B, g.bx i = some B → i < h.length ∧ B < w.heap.size
 inj : ∀ i j B, g.bx i = some B → g.bx j = some B → i = j
 tokp : ∀ B, 0 < n B → B < w.heap.size ∧ ∀ i b, h[i]? = some b → b ≠ .dead → g.bx i ≠ some B
 rest : ∃ bv : List (List Value), bv.length = h.length ∧ (∀ i b vs, h[i]? = some b → bv[i]? = some vs → oJ w0 g w i b vs) ∧ ∀ B, n B + tkBs h bv B ≤ 1
def Keep (n : Nat → Nat) (g : Gh) (w : World) (g' : Gh) (w' : World) : Prop :=
 ∀ B, 0 < n B → w'.heap[B]? = w.heap[B]? ∧ ∀ o, g'.prot B o = g.prot B o
theorem Keep.refl (n : Nat → Nat) (g : Gh) (w : World) : Keep n g w g w := fun _ _ => ⟨rfl, fun _ => rfl⟩
theorem Keep.trans {n : Nat → Nat} {g g1 g2 : Gh} {w w1 w2 : World} (h : Keep n g w g1 w1) (k : Keep n g1 w1 g2 w2) : Keep n g w g2 w2 :=
 fun B hB => ⟨(k B hB).1.trans (h B hB).1, fun o => ((k B hB).2 o).trans ((h B hB).2 o)⟩
theorem Keep.le {n m : Nat → Nat} {g g1 : Gh} {w w1 : World} (h : Keep n g w g1 w1) (hm : ∀ B, m B ≤ n B) : Keep m g w g1 w1 :=
 fun B hB => h B (Nat.lt_of_lt_of_le hB (hm B))
def Spec (P : Program) (f : FuncId) (args : List AV) (h : AH) (K : AV → AH → Prop) : Prop :=
 ∀ (w0 : World) (g : Gh) (n : Nat → Nat) (w : World) (vs : List Value), VL g args vs → clL args = true → Inv w0 g h n w →
  Calls P f vs.toArray w (fun e w' => ∃ g' r u h', e = .returned u ∧ K r h' ∧ g.le g' ∧ Keep n g w g' w' ∧ VR g' r u ∧ OV w0 g' w' r u ∧
   Inv w0 g' h' (fun B => n B + tk r u B) w')
theorem Spec.mono {P : Program} {f : FuncId} {args : List AV} {h : AH} {K K' : AV → AH → Prop} (hs : Spec P f args h K) (hk : ∀ r h', K r h' → K' r h') : Spec P f args h K' :=
 fun w0 g n w vs h1 h2 h3 => (hs w0 g n w vs h1 h2 h3).mono fun e w' ⟨g', r, u, h', a, b, rest⟩ => ⟨g', r, u, h', a, hk _ _ b, rest⟩
theorem cell?_of_heap {w w' : World} {B : Nat} (h : w'.heap[B]? = w.heap[B]?) (o : Nat) (s : Option Nat) : w'.cell? ⟨B, o, s⟩ = w.cell? ⟨B, o, s⟩ := by simp [World.cell?, h]
theorem Tail.keep {w0 w w' : World} {g g' : Gh} {B e room : Nat} (h : Tail w0 g w B e room) (h1 : w'.heap[B]? = w.heap[B]?) (h2 : ∀ o, g'.prot B o = g.prot B o) : Tail w0 g' w' B e room :=
 ⟨h.1, fun o ho => (h2 o).trans (h.2.1 o ho), by rw [h1]; exact h.2.2⟩
mutual
theorem OV.keep {w0 w w' : World} {g g' : Gh} : ∀ {v : AV} {u : Value}, OV w0 g w v u → (∀ B, 0 < tk v u B → w'.heap[B]? = w.heap[B]? ∧ ∀ o, g'.prot B o = g.prot B o) → OV w0 g' w' v u
 | .sl m es, u, h, hk => by
  cases m with
  | own =>
   cases u with
   | slice a len cap =>
    cases a with
    | none => simp [OV]
    | some a =>
     simp only [OV] at h ⊢
     obtain ⟨h1, h2⟩ := hk a.block (by simp [tk])
     exact h.keep h1 h2
   | _ => simp [OV]
  | sh => simp [OV]
  | ex => simp [OV]
 | .agg cs, u, h, hk => by
  cases u <;> simp only [OV] at h ⊢
  exact OVL.keep h (by simpa only [tk] using hk)
 | .tup cs, u, h, hk => by
  cases u <;> simp only [OV] at h ⊢
  exact OVL.keep h (by simpa only [tk] using hk)
 | .int k n, u, h, hk => by simp [OV]
 | .bool b, u, h, hk => by simp [OV]
 | .str s, u, h, hk => by simp [OV]
 | .nilp, u, h, hk => by simp [OV]
 | .box id off, u, h, hk => by simp [OV]
 | .ref cs, u, h, hk => by simp [OV]
 | .nili, u, h, hk => by simp [OV]
 | .iface t x, u, h, hk => by simp [OV]
 | .nilf, u, h, hk => by simp [OV]
 | .fn f a b, u, h, hk => by simp [OV]
 | .nilm, u, h, hk => by simp [OV]
 | .mp id, u, h, hk => by simp [OV]
 | .any, u, h, hk => by simp [OV]
 | .bs _ _ _ _, u, h, hk => by simp [OV]
theorem OVL.keep {w0 w w' : World} {g g' : Gh} : ∀ {vs : List AV} {us : List Value}, OVL w0 g w vs us → (∀ B, 0 < tkL vs us B → w'.heap[B]? = w.heap[B]? ∧ ∀ o, g'.prot B o = g.prot B o) → OVL w0 g' w' vs us
 | [], us, h, hk => by simp [OVL]
 | c :: cs, [], h, hk => by simp [OVL]
 | c :: cs, u :: us, h, hk => by
  simp only [OVL] at h ⊢
  exact ⟨OV.keep h.1 fun B hB => hk B (by simp only [tkL]; omega), OVL.keep h.2 fun B hB => hk B (by simp only [tkL]; omega)⟩
end
mutual
theorem oK : ∀ {v : AV} {u : Value}, v.cl = true → ∀ B, tk v u B = 0
 | .sl m es, u, h, B => by cases m <;> simp_all [tk, AV.cl]
 | .agg cs, u, h, B => by
  cases u <;> simp only [tk]
  exact mo (by simpa [AV.cl] using h) B
 | .tup cs, u, h, B => by
  cases u <;> simp only [tk]
  exact mo (by simpa [AV.cl] using h) B
 | .int k n, u, h, B => by simp [tk]
 | .bool b, u, h, B => by simp [tk]
 | .str s, u, h, B => by simp [tk]
 | .nilp, u, h, B => by simp [tk]
 | .box id off, u, h, B => by simp [tk]
 | .ref cs, u, h, B => by simp [tk]
 | .nili, u, h, B => by simp [tk]
 | .iface t x, u, h, B => by simp [tk]
 | .nilf, u, h, B => by simp [tk]
 | .fn f a b, u, h, B => by simp [tk]
 | .nilm, u, h, B => by simp [tk]
 | .mp id, u, h, B => by simp [tk]
 | .any, u, h, B => by simp [tk]
 | .bs _ _ _ _, u, h, B => by simp [tk]
theorem mo : ∀ {vs : List AV} {us : List Value}, clL vs = true → ∀ B, tkL vs us B = 0
 | [], us, h, B => by simp [tkL]
 | c :: cs, [], h, B => by simp [tkL]
 | c :: cs, u :: us, h, B => by
  simp only [clL, Bool.and_eq_true] at h
  simp only [tkL, oK h.1 B, mo h.2 B]
end
mutual
theorem oL {w0 w : World} {g : Gh} : ∀ {v : AV} {u : Value}, v.cl = true → OV w0 g w v u
 | .sl m es, u, h => by cases m <;> simp_all [OV, AV.cl]
 | .agg cs, u, h => by
  cases u <;> simp only [OV]
  exact lM (by simpa [AV.cl] using h)
 | .tup cs, u, h => by
  cases u <;> simp only [OV]
  exact lM (by simpa [AV.cl] using h)
 | .int k n, u, h => by simp [OV]
 | .bool b, u, h => by simp [OV]
 | .str s, u, h => by simp [OV]
 | .nilp, u, h => by simp [OV]
 | .box id off, u, h => by simp [OV]
 | .ref cs, u, h => by simp [OV]
 | .nili, u, h => by simp [OV]
 | .iface t x, u, h => by simp [OV]
 | .nilf, u, h => by simp [OV]
 | .fn f a b, u, h => by simp [OV]
 | .nilm, u, h => by simp [OV]
 | .mp id, u, h => by simp [OV]
 | .any, u, h => by simp [OV]
 | .bs _ _ _ _, u, h => by simp [OV]
theorem lM {w0 w : World} {g : Gh} : ∀ {vs : List AV} {us : List Value}, clL vs = true → OVL w0 g w vs us
 | [], us, h => by simp [OVL]
 | c :: cs, [], h => by simp [OVL]
 | c :: cs, u :: us, h => by
  simp only [clL, Bool.and_eq_true] at h
  exact ⟨oL h.1, lM h.2⟩
end
mutual
theorem la : ∀ (v : AV), v.sh.cl = true
 | .sl m es => by cases m <;> simp [AV.sh, AV.cl]
 | .agg cs => by simp only [AV.sh, AV.cl]; exact j5 cs
 | .tup cs => by simp only [AV.sh, AV.cl]; exact j5 cs
 | .int k n => by simp [AV.sh, AV.cl]
 | .bool b => by simp [AV.sh, AV.cl]
 | .str s => by simp [AV.sh, AV.cl]
 | .nilp => by simp [AV.sh, AV.cl]
 | .box id off => by simp [AV.sh, AV.cl]
 | .ref cs => by simp [AV.sh, AV.cl]
 | .nili => by simp [AV.sh, AV.cl]
 | .iface t x => by simp [AV.sh, AV.cl]
 | .nilf => by simp [AV.sh, AV.cl]
 | .fn f a b => by simp [AV.sh, AV.cl]
 | .nilm => by simp [AV.sh, AV.cl]
 | .mp id => by simp [AV.sh, AV.cl]
 | .any => by simp [AV.sh, AV.cl]
 | .bs _ _ _ _ => by simp [AV.sh, AV.cl]
theorem j5 : ∀ (vs : List AV), clL (shL vs) = true
 | [] => by simp [shL, clL]
 | c :: cs => by simp [shL, clL, la c, j5 cs]
end
theorem oM {g : Gh} : ∀ {vs : List AV} {us : List Value}, VL g vs us → ∀ {i : Nat} {v v' : AV} {u u' : Value}, vs[i]? = some v → us[i]? = some u →
  ∀ B, tkL (vs.set i v') (us.set i u') B + tk v u B = tkL vs us B + tk v' u' B
 | [], us, h, i, v, v', u, u', hi, hu, B => by simp at hi
 | c :: cs, us, h, i, v, v', u, u', hi, hu, B => by
  simp only [VL] at h; obtain ⟨x, xs, rfl, _, h2⟩ := h
  cases i with
  | zero => simp at hi hu; subst hi hu; simp only [List.set_cons_zero, tkL]; omega
  | succ i =>
   have := oM h2 (i := i) (v' := v') (u' := u') (by simpa using hi) (by simpa using hu) B
   simp only [List.set_cons_succ, tkL]; omega
theorem nj {g : Gh} : ∀ {vs : List AV} {us : List Value}, VL g vs us → ∀ (i : Nat) (v' : AV) (u' : Value) (B : Nat),
  tkL (vs.set i v') (us.set i u') B ≤ tkL vs us B + tk v' u' B
 | [], us, h, i, v', u', B => by simp [tkL]
 | c :: cs, us, h, i, v', u', B => by
  simp only [VL] at h; obtain ⟨x, xs, rfl, _, h2⟩ := h
  cases i with
  | zero => simp only [List.set_cons_zero, tkL]; omega
  | succ i => have := nj h2 i v' u' B; simp only [List.set_cons_succ, tkL]; omega
theorem y6 : ∀ {vs : List AV} {us : List Value} {i : Nat} {v : AV} {u : Value}, vs[i]? = some v → us[i]? = some u → ∀ B, tk v u B ≤ tkL vs us B
 | [], us, i, v, u, hi, hu, B => by simp at hi
 | c :: cs, [], i, v, u, hi, hu, B => by simp at hu
 | c :: cs, x :: xs, i, v, u, hi, hu, B => by
  cases i with
  | zero => simp at hi hu; subst hi hu; simp only [tkL]; omega
  | succ i => have := y6 (i := i) (by simpa using hi) (by simpa using hu) B; simp only [tkL]; omega
theorem OVL.set {w0 w : World} {g : Gh} : ∀ {vs : List AV} {us : List Value}, OVL w0 g w vs us → ∀ (i : Nat) {v : AV} {u : Value}, OV w0 g w v u → OVL w0 g w (vs.set i v) (us.set i u)
 | [], us, h, i, v, u, hv => by simp [OVL]
 | c :: cs, [], h, i, v, u, hv => by cases i <;> simp [OVL]
 | c :: cs, x :: xs, h, i, v, u, hv => by
  simp only [OVL] at h
  cases i with
  | zero => exact ⟨hv, h.2⟩
  | succ i => exact ⟨h.1, OVL.set h.2 i hv⟩
theorem OVL.get {w0 w : World} {g : Gh} : ∀ {vs : List AV} {us : List Value}, OVL w0 g w vs us → ∀ {i : Nat} {v : AV} {u : Value}, vs[i]? = some v → us[i]? = some u → OV w0 g w v u
 | [], us, h, i, v, u, hi, hu => by simp at hi
 | c :: cs, [], h, i, v, u, hi, hu => by simp at hu
 | c :: cs, x :: xs, h, i, v, u, hi, hu => by
  simp only [OVL] at h
  cases i with
  | zero => simp at hi hu; subst hi hu; exact h.1
  | succ i => exact OVL.get h.2 (by simpa using hi) (by simpa using hu)
theorem kR {g : Gh} : ∀ {vs : List AV} {us : List Value}, VL g vs us → ∀ (ws : List AV) (ts : List Value) (B : Nat), tkL (vs ++ ws) (us ++ ts) B = tkL vs us B + tkL ws ts B
 | [], us, h, ws, ts, B => by simp only [VL] at h; subst h; simp [tkL]
 | c :: cs, us, h, ws, ts, B => by
  simp only [VL] at h; obtain ⟨x, xs, rfl, _, h2⟩ := h
  have := kR h2 ws ts B
  simp only [List.cons_append, tkL]; omega
theorem rn : ∀ {h : AH} {bv : List (List Value)}, bv.length = h.length → ∀ {i : Nat} {b b' : Bx} {vs vs' : List Value}, h[i]? = some b → bv[i]? = some vs →
  ∀ B, tkBs (h.set i b') (bv.set i vs') B + tkB b vs B = tkBs h bv B + tkB b' vs' B
 | [], bv, hl, i, b, b', vs, vs', hi, hv, B => by simp at hi
 | c :: cs, [], hl, i, b, b', vs, vs', hi, hv, B => by simp at hv
 | c :: cs, x :: xs, hl, i, b, b', vs, vs', hi, hv, B => by
  cases i with
  | zero => simp at hi hv; subst hi hv; simp only [List.set_cons_zero, tkBs]; omega
  | succ i =>
   have := rn (h := cs) (bv := xs) (by simpa using hl) (i := i) (b' := b') (vs' := vs') (by simpa using hi) (by simpa using hv) B
   simp only [List.set_cons_succ, tkBs]; omega
theorem jd : ∀ {h : AH} {bv : List (List Value)}, bv.length = h.length → ∀ (b : Bx) (vs : List Value) (B : Nat), tkBs (h ++ [b]) (bv ++ [vs]) B = tkBs h bv B + tkB b vs B
 | [], bv, hl, b, vs, B => by
  have : bv = [] := List.eq_nil_of_length_eq_zero (by simpa using hl)
  subst this; simp [tkBs]
 | c :: cs, [], hl, b, vs, B => by simp at hl
 | c :: cs, x :: xs, hl, b, vs, B => by
  have := jd (h := cs) (bv := xs) (by simpa using hl) b vs B
  simp only [List.cons_append, tkBs]; omega
theorem mq : ∀ {h : AH} {bv : List (List Value)} {i : Nat} {b : Bx} {vs : List Value}, h[i]? = some b → bv[i]? = some vs → ∀ B, tkB b vs B ≤ tkBs h bv B
 | [], bv, i, b, vs, hi, hv, B => by simp at hi
 | c :: cs, [], i, b, vs, hi, hv, B => by simp at hv
 | c :: cs, x :: xs, i, b, vs, hi, hv, B => by
  cases i with
  | zero => simp at hi hv; subst hi hv; simp only [tkBs]; omega
  | succ i => have := mq (i := i) (by simpa using hi) (by simpa using hv) B; simp only [tkBs]; omega
theorem p6 {g : Gh} {es : List (List AV)} {a : Option Addr} {len cap : Nat} {B : Nat} (h : VR g (.sl .own es) (.slice a len cap)) (hB : 0 < tk (.sl .own es) (.slice a len cap) B) :
  ∃ o u, g.prot B o = some u := by
 simp only [VR] at h
 rcases h with ⟨_, h2, _⟩ | ⟨B1, o, cp, he, _, _, h4, h5, hp⟩
 ·exact absurd rfl h2
 ·simp only [Value.slice.injEq] at he
  obtain ⟨rfl, rfl, rfl⟩ := he
  have : B1 = B := by simp only [tk] at hB; split at hB <;> simp_all
  subst this
  have h4 := h4 trivial
  cases es with
  | nil => simp [hsz] at h4
  | cons e es =>
   simp only [hsz] at h4
   simp only [PE] at hp
   obtain ⟨u, hu, _⟩ := PR.at_ hp.1 (i := 0) (c := e[0]) (by simp [h4])
   exact ⟨_, u, hu⟩
mutual
theorem u4 {g : Gh} : ∀ {v : AV} {u : Value} {B : Nat}, VR g v u → 0 < tk v u B → ∃ o x, g.prot B o = some x
 | .sl m es, u, B, h, hB => by
  cases m with
  | own =>
   cases u with
   | slice a len cap => exact p6 h hB
   | _ => simp [tk] at hB
  | sh => simp [tk] at hB
  | ex => simp [tk] at hB
 | .agg cs, u, B, h, hB => by
  simp only [VR] at h; obtain ⟨vs, rfl, hv, _⟩ := h
  exact dE hv (by simpa only [tk] using hB)
 | .tup cs, u, B, h, hB => by
  simp only [VR] at h; obtain ⟨vs, rfl, hv⟩ := h
  exact dE hv (by simpa only [tk] using hB)
 | .int k n, u, B, h, hB => by simp [tk] at hB
 | .bool b, u, B, h, hB => by simp [tk] at hB
 | .str s, u, B, h, hB => by simp [tk] at hB
 | .nilp, u, B, h, hB => by simp [tk] at hB
 | .box id off, u, B, h, hB => by simp [tk] at hB
 | .ref cs, u, B, h, hB => by simp [tk] at hB
 | .nili, u, B, h, hB => by simp [tk] at hB
 | .iface t x, u, B, h, hB => by simp [tk] at hB
 | .nilf, u, B, h, hB => by simp [tk] at hB
 | .fn f a b, u, B, h, hB => by simp [tk] at hB
 | .nilm, u, B, h, hB => by simp [tk] at hB
 | .mp id, u, B, h, hB => by simp [tk] at hB
 | .any, u, B, h, hB => by simp [tk] at hB
 | .bs _ _ _ _, u, B, h, hB => by simp [tk] at hB
theorem dE {g : Gh} : ∀ {vs : List AV} {us : List Value} {B : Nat}, VL g vs us → 0 < tkL vs us B → ∃ o x, g.prot B o = some x
 | [], us, B, h, hB => by simp [tkL] at hB
 | c :: cs, us, B, h, hB => by
  simp only [VL] at h; obtain ⟨x, xs, rfl, h1, h2⟩ := h
  simp only [tkL] at hB
  by_cases hc : 0 < tk c x B
  ·exact u4 h1 hc
  ·exact dE h2 (by omega)
end
theorem Inv.le {w0 w : World} {g : Gh} {h : AH} {n m : Nat → Nat} (hi : Inv w0 g h n w) (hm : ∀ B, m B ≤ n B) : Inv w0 g h m w :=
 ⟨hi.gw, hi.gl, hi.below, hi.prot, hi.bxd, hi.inj, fun B hB => hi.tokp B (Nat.lt_of_lt_of_le hB (hm B)), let ⟨bv, h1, h2, h3⟩ := hi.rest; ⟨bv, h1, h2, fun B => Nat.le_trans (Nat.add_le_add_right (hm B) _) (h3 B)⟩⟩
theorem Inv.block_lt {w0 w : World} {g : Gh} {h : AH} {n : Nat → Nat} (hi : Inv w0 g h n w) {B o : Nat} {v : Value} (hp : g.prot B o = some v) : B < w.heap.size :=
 World.block_lt_of_cell? w ⟨B, o, none⟩ (hi.prot B o v hp)
theorem Inv.drew {w0 w : World} {g : Gh} {h : AH} {n : Nat → Nat} (hi : Inv w0 g h n w) : Inv w0 g h n w.drew := by
 obtain ⟨gw, gl, a, b, c, d, tp, bv, e, f, k⟩ := hi
 refine ⟨gw, gl, a.drew, b, c, d, tp, bv, e, fun i x vs hx hv => ?_, k⟩
 have := f i x vs hx hv
 cases x with
 | cells cs =>
  obtain ⟨B, el, ex, h1, h2, h3, h4, ho, h5, h6⟩ := this
  exact ⟨B, el, ex, h1, h2, h3, h4, ho, OVL.keep h5 (fun _ _ => ⟨rfl, fun _ => rfl⟩), h6⟩
 | amap es => exact this
 | dead => trivial
end Go.Proofs.YtibchilpaaiecaaGreatDoor.M
/- Steps of the heap that keep the invariant: a new box, a new protected row, a store into a box, an append in place. -/
set_option linter.unusedVariables false
set_option linter.unusedSimpArgs false
namespace Go.Proofs.YtibchilpaaiecaaGreatDoor.M
open Go.RowKit
def Gh.addBox (g : Gh) (i B : Nat) : Gh := { g with bx := fun j => if j = i then some B else g.bx j }
def Gh.addProt (g : Gh) (B o : Nat) (vs : List Value) : Gh :=
 { g with prot := fun b p => if b = B ∧ o ≤ p ∧ p < o + vs.length then vs[p - o]? else g.prot b p }
theorem Gh.addProt_at {g : Gh} {B o : Nat} {vs : List Value} {i : Nat} {v : Value} (h : vs[i]? = some v) : (g.addProt B o vs).prot B (o + i) = some v := by
 have hi : i < vs.length := (List.getElem?_eq_some_iff.1 h).1
 show (if B = B ∧ o ≤ o + i ∧ o + i < o + vs.length then vs[o + i - o]? else g.prot B (o + i)) = some v
 rw [if_pos ⟨rfl, by omega, by omega⟩, show o + i - o = i from by omega, h]
theorem Gh.addProt_other {g : Gh} {B o : Nat} {vs : List Value} {b p : Nat} (h : b ≠ B ∨ p < o ∨ o + vs.length ≤ p) : (g.addProt B o vs).prot b p = g.prot b p := by
 simp only [Gh.addProt]
 rw [if_neg (by omega)]
theorem Gh.le_addProt {g : Gh} {B o : Nat} {vs : List Value} (h : ∀ p, o ≤ p → g.prot B p = none) : g.le (g.addProt B o vs) := by
 refine ⟨fun b p v hv => ?_, fun _ _ h => h⟩
 by_cases hc : b = B ∧ o ≤ p
 ·obtain ⟨rfl, hp⟩ := hc; rw [h p hp] at hv; cases hv
 ·rw [Gh.addProt_other (by omega)]; exact hv
theorem Gh.le_addBox {g : Gh} {i B : Nat} (h : g.bx i = none) : g.le (g.addBox i B) := by
 refine ⟨fun _ _ _ h => h, fun j b hj => ?_⟩
 simp only [Gh.addBox]
 split
 ·rename_i e; subst e; rw [h] at hj; cases hj
 ·exact hj
section
variable {w0 w : World} {g : Gh} {h : AH} {n : Nat → Nat}
theorem Inv.bx_none (hi : Inv w0 g h n w) : g.bx h.length = none := by
 cases e : g.bx h.length with
 | none => rfl
 | some B => exact absurd (hi.bxd _ _ e).1 (Nat.lt_irrefl _)
theorem Inv.prot_new (hi : Inv w0 g h n w) {B : Nat} (hB : w.heap.size ≤ B) (o : Nat) : g.prot B o = none := by
 cases e : g.prot B o with
 | none => rfl
 | some v => exact absurd (hi.block_lt e) (by omega)
theorem Inv.tkL_lt (hi : Inv w0 g h n w) {cs : List AV} {vs : List Value} {B : Nat} (hv : VL g cs vs) (hB : 0 < tkL cs vs B) : B < w.heap.size := by
 obtain ⟨o, x, hp⟩ := dE hv hB; exact hi.block_lt hp
theorem Inv.n_lt (hi : Inv w0 g h n w) {B : Nat} (hB : 0 < n B) : B < w.heap.size := by
 exact (hi.tokp B hB).1
theorem oJ.keep {w' : World} {g' : Gh} {i : Nat} {b : Bx} {vs : List Value} (hb : oJ w0 g w i b vs) (hg : g.le g')
  (hk : b ≠ .dead → ∀ B, g.bx i = some B → w'.heap[B]? = w.heap[B]? ∧ (gS g B → gS g' B))
  (ht : ∀ B, 0 < tkB b vs B → w'.heap[B]? = w.heap[B]? ∧ ∀ o, g'.prot B o = g.prot B o) : oJ w0 g' w' i b vs := by
 cases b with
 | dead => trivial
 | cells cs =>
  replace hk := hk (by simp)
  obtain ⟨B, el, ex, h1, h2, h3, h4, ho, h5, h6⟩ := hb
  exact ⟨B, el, ex, hg.bx _ _ h1, h2, by rw [(hk B h1).1]; exact h3, VL.mono hg _ _ h4, ho, OVL.keep h5 (by simpa only [tkB] using ht), (hk B h1).2 h6⟩
 | amap es =>
  replace hk := hk (by simp)
  obtain ⟨B, en, clock, h1, h2, h3, h4, h6⟩ := hb
  refine ⟨B, en, clock, hg.bx _ _ h1, h2, by rw [(hk B h1).1]; exact h3, ?_, (hk B h1).2 h6⟩
  clear h1 h2 h3 h6 hk ht
  revert h4
  generalize en.toList = l
  induction es generalizing l with
  | nil => simp [ME]
  | cons e es ih =>
   obtain ⟨k, v⟩ := e
   simp only [ME]
   rintro ⟨e, es', rfl, a, b, c, d, r⟩
   exact ⟨e, es', rfl, VR.mono hg _ _ a, VR.mono hg _ _ b, c, d, ih _ r⟩
theorem oJ.bx {i : Nat} {b : Bx} {vs : List Value} (hb : oJ w0 g w i b vs) (hd : b ≠ .dead) : ∃ B, g.bx i = some B ∧ w0.heap.size ≤ B ∧ gS g B := by
 cases b with
 | dead => exact absurd rfl hd
 | cells cs => obtain ⟨B, el, ex, h1, h2, h3, h4, ho, h5, h6⟩ := hb; exact ⟨B, h1, h2, h6⟩
 | amap es => obtain ⟨B, en, clock, h1, h2, h3, h4, h6⟩ := hb; exact ⟨B, h1, h2, h6⟩
theorem oJ.tk_prot {i : Nat} {b : Bx} {vs : List Value} (hb : oJ w0 g w i b vs) {B : Nat} (hB : 0 < tkB b vs B) : ∃ o u, g.prot B o = some u := by
 cases b with
 | dead => simp [tkB] at hB
 | cells cs => obtain ⟨B', el, ex, h1, h2, h3, h4, ho, h5, h6⟩ := hb; exact dE h4 (by simpa only [tkB] using hB)
 | amap es => simp [tkB] at hB
theorem Inv.prot_ok (hi : Inv w0 g h n w) {B : Nat} (hp : ∃ o u, g.prot B o = some u) : B < w.heap.size ∧ ∀ i b, h[i]? = some b → b ≠ .dead → g.bx i ≠ some B := by
 obtain ⟨o, u, hu⟩ := hp
 refine ⟨hi.block_lt hu, fun i b hb hd hB => ?_⟩
 obtain ⟨bv, e1, e2, e3⟩ := hi.rest
 have hil : i < h.length := (List.getElem?_eq_some_iff.1 hb).1
 obtain ⟨B', h1, _, h3⟩ := (e2 i b bv[i] hb (by simp [e1, hil])).bx hd
 rw [hB] at h1; cases h1; rw [h3 o] at hu; cases hu
theorem dJ (w : World) (o : Obj) {k : Nat} (hk : k < w.heap.size) : (w.alloc o).heap[k]? = w.heap[k]? := Below.heap_alloc w o k hk
theorem heap_alloc_new (w : World) (o : Obj) : (w.alloc o).heap[w.heap.size]? = some o := by
 show (w.heap.push o)[w.heap.size]? = some o
 simp
theorem cell?_alloc_keep (w : World) (o : Obj) {B p : Nat} {v : Value} (h : w.cell? ⟨B, p, none⟩ = some v) : (w.alloc o).cell? ⟨B, p, none⟩ = some v := by
 have hlt := World.block_lt_of_cell? w ⟨B, p, none⟩ h
 rw [cell?_of_heap (dJ w o hlt)]; exact h
theorem Inv.allocStep (hi : Inv w0 g h n w) (o : Obj) {g' : Gh} (hg : g.le g') (hp : ∀ B p, B ≠ w.heap.size → g'.prot B p = g.prot B p)
  {i : Nat} {b : Bx} {vs : List Value} (hb : oJ w0 g w i b vs) : oJ w0 g' (w.alloc o) i b vs :=
 hb.keep hg (fun _ B hB => by
  have hlt := (hi.bxd _ _ hB).2
  exact ⟨dJ w o hlt, fun hn p => by rw [hp B p (by omega)]; exact hn p⟩)
  (fun B hB => by
   obtain ⟨q, u, hq⟩ := hb.tk_prot hB
   have hlt := hi.block_lt hq
   exact ⟨dJ w o hlt, fun p => hp B p (by omega)⟩)
theorem Inv.keepAlloc (hi : Inv w0 g h n w) (o : Obj) {g' : Gh} (hp : ∀ B p, B ≠ w.heap.size → g'.prot B p = g.prot B p) : Keep n g w g' (w.alloc o) :=
 fun B hB => by
  have hlt := hi.n_lt hB
  exact ⟨dJ w o hlt, fun p => hp B p (by omega)⟩
theorem OVL.alloc (hi : Inv w0 g h n w) (o : Obj) {g' : Gh} (hp : ∀ B p, B ≠ w.heap.size → g'.prot B p = g.prot B p) {cs : List AV} {vs : List Value} (hv : VL g cs vs) (ho : OVL w0 g w cs vs) : OVL w0 g' (w.alloc o) cs vs :=
 OVL.keep ho fun B hB => by
  have hlt := hi.tkL_lt hv hB
  exact ⟨dJ w o hlt, fun p => hp B p (by omega)⟩
theorem Inv.allocBox (hi : Inv w0 g h n w) {n' : Nat → Nat} {cs : List AV} {vs : List Value} (el : TypeId) (hv : VL g cs vs) (ho : aM cs = true) (hov : OVL w0 g w cs vs)
  (hn : ∀ B, n' B + tkL cs vs B ≤ n B) : Inv w0 (g.addBox h.length w.heap.size) (h ++ [.cells cs]) n' (w.alloc (.cells vs.toArray el)) := by
 have hbn := hi.bx_none
 have hle : g.le (g.addBox h.length w.heap.size) := Gh.le_addBox hbn
 have hp : ∀ B p, B ≠ w.heap.size → (g.addBox h.length w.heap.size).prot B p = g.prot B p := fun _ _ _ => rfl
 obtain ⟨bv, e1, e2, e3⟩ := hi.rest
 refine ⟨hi.gw, hi.gl.mono hle.prot, hi.below.alloc hi.below.size _, fun B p v hv => cell?_alloc_keep _ _ (hi.prot B p v hv), fun i B hB => ?_, fun i j B h1 h2 => ?_, fun B hB => ?_, bv ++ [vs], by simp [e1], ?_, fun B => ?_⟩
 ·simp only [Gh.addBox] at hB
  split at hB
  ·cases hB; simp; omega
  ·have := hi.bxd _ _ hB; simp; omega
 ·simp only [Gh.addBox] at h1 h2
  split at h1 <;> split at h2
  ·omega
  ·cases h1; exact absurd (hi.bxd _ _ h2).2 (Nat.lt_irrefl _)
  ·cases h2; exact absurd (hi.bxd _ _ h1).2 (Nat.lt_irrefl _)
  ·exact hi.inj _ _ _ h1 h2
 ·obtain ⟨t1, t2⟩ := hi.tokp B (by have := hn B; omega)
  refine ⟨by simp; omega, fun i b hb hd => ?_⟩
  simp only [Gh.addBox]
  split
  ·intro he; cases he; omega
  ·rename_i hne
   have : i < h.length := by have := (List.getElem?_eq_some_iff.1 hb).1; simp at this; omega
   rw [List.getElem?_append_left this] at hb
   exact t2 i b hb hd
 ·intro i b xs hb hx
  by_cases hlt : i < h.length
  ·rw [List.getElem?_append_left hlt] at hb
   rw [List.getElem?_append_left (by omega)] at hx
   exact hi.allocStep _ hle hp (e2 i b xs hb hx)
  ·have : i = h.length := by
    have := (List.getElem?_eq_some_iff.1 hb).1; simp at this; omega
   subst this
   simp at hb
   rw [← e1] at hx; simp at hx
   subst hb hx
   exact ⟨w.heap.size, el, [], by simp [Gh.addBox], hi.below.size, by simpa using heap_alloc_new w (.cells vs.toArray el), VL.mono hle _ _ hv, ho, OVL.alloc hi _ hp hv hov, fun p => hi.prot_new (Nat.le_refl _) p⟩
 ·rw [jd e1]
  have := e3 B; have := hn B; simp only [tkB]; omega
theorem Inv.allocRow (hi : Inv w0 g h n w) (c : Array Value) (el : TypeId) (k : Nat) (hk : k ≤ c.size) :
  Inv w0 (g.addProt w.heap.size 0 (c.toList.take k)) h n (w.alloc (.cells c el)) ∧ g.le (g.addProt w.heap.size 0 (c.toList.take k)) ∧
   Keep n g w (g.addProt w.heap.size 0 (c.toList.take k)) (w.alloc (.cells c el)) ∧ (∀ B p, B ≠ w.heap.size → (g.addProt w.heap.size 0 (c.toList.take k)).prot B p = g.prot B p) := by
 have hle : g.le (g.addProt w.heap.size 0 (c.toList.take k)) := Gh.le_addProt fun p _ => hi.prot_new (Nat.le_refl _) p
 have hp : ∀ B p, B ≠ w.heap.size → (g.addProt w.heap.size 0 (c.toList.take k)).prot B p = g.prot B p := fun B p hB => Gh.addProt_other (.inl hB)
 obtain ⟨bv, e1, e2, e3⟩ := hi.rest
 refine ⟨⟨hi.gw, hi.gl.mono hle.prot, hi.below.alloc hi.below.size _, fun B p v hv => ?_, fun i B hB => ?_, hi.inj, fun B hB => ?_, bv, e1, fun i b xs hb hx => hi.allocStep _ hle hp (e2 i b xs hb hx), e3⟩, hle, hi.keepAlloc _ hp, hp⟩
 ·by_cases hB : B = w.heap.size
  ·subst hB
   simp only [Gh.addProt] at hv
   split at hv
   ·rw [Nat.sub_zero, List.getElem?_take] at hv
    split at hv
    ·rw [World.cell?_alloc_new]; simpa using hv
    ·cases hv
   ·rw [hi.prot_new (Nat.le_refl _)] at hv; cases hv
  ·rw [hp B p hB] at hv
   exact cell?_alloc_keep _ _ (hi.prot B p v hv)
 ·have := hi.bxd _ _ hB; simp; omega
 ·obtain ⟨t1, t2⟩ := hi.tokp B hB; exact ⟨by simp; omega, t2⟩
theorem je : ∀ {h : AH} {bv : List (List Value)} {B : Nat}, 0 < tkBs h bv B → ∃ (i : Nat) (b : Bx) (vs : List Value), h[i]? = some b ∧ bv[i]? = some vs ∧ 0 < tkB b vs B
 | [], bv, B, h => by simp [tkBs] at h
 | b :: bs, [], B, h => by simp [tkBs] at h
 | b :: bs, vs :: vss, B, h => by
  simp only [tkBs] at h
  by_cases hc : 0 < tkB b vs B
  ·exact ⟨0, b, vs, rfl, rfl, hc⟩
  ·obtain ⟨i, b', vs', h1, h2, h3⟩ := je (h := bs) (bv := vss) (B := B) (by omega)
   exact ⟨i + 1, b', vs', by simpa using h1, by simpa using h2, h3⟩
theorem Inv.allocRowTok (hi : Inv w0 g h n w) (c : Array Value) (el : TypeId) (k : Nat) (hk : k ≤ c.size) (h0 : 0 < k) :
  Inv w0 (g.addProt w.heap.size 0 (c.toList.take k)) h (fun B => n B + if w.heap.size = B then 1 else 0) (w.alloc (.cells c el)) := by
 obtain ⟨a1, hle, a3, a4⟩ := hi.allocRow c el k hk
 obtain ⟨bv, e1, e2, e3⟩ := a1.rest
 obtain ⟨bv0, f1, f2, f3⟩ := hi.rest
 have hn0 : n w.heap.size = 0 := by
  cases e : n w.heap.size with
  | zero => rfl
  | succ m => exact absurd (hi.n_lt (B := w.heap.size) (by omega)) (Nat.lt_irrefl _)
 have hc0 : (c.toList.take k)[0]? = some c[0] := by rw [List.getElem?_take, if_pos h0]; simp
 refine ⟨a1.gw, a1.gl, a1.below, a1.prot, a1.bxd, a1.inj, fun B hB => ?_, bv0, f1, fun i b xs hb hx => hi.allocStep _ hle a4 (f2 i b xs hb hx), fun B => ?_⟩
 ·by_cases hc : w.heap.size = B
  ·subst hc
   exact ⟨by simp, fun i b hb hd he => by have := (hi.bxd i _ he).2; omega⟩
  ·simp [hc] at hB; exact a1.tokp B hB
 ·by_cases hc : w.heap.size = B
  ·subst hc
   have : tkBs h bv0 w.heap.size = 0 := by
    cases e : tkBs h bv0 w.heap.size with
    | zero => rfl
    | succ m =>
     obtain ⟨i, b, vs, q1, q2, q3⟩ := je (h := h) (bv := bv0) (B := w.heap.size) (by omega)
     obtain ⟨o, u, hu⟩ := (f2 i b vs q1 q2).tk_prot q3
     exact absurd (hi.block_lt hu) (Nat.lt_irrefl _)
   simp [hn0, this]
  ·have := f3 B; simp [hc]; omega
theorem bB (w : World) (B : Nat) (c : Array Value) {k : Nat} (h : k ≠ B) : (w.setRow B c).heap[k]? = w.heap[k]? := setRow_other w B k c h
theorem Inv.setRowBelow (hi : Inv w0 g h n w) {B : Nat} (hB : w0.heap.size ≤ B) (c : Array Value) : Below w0.heap.size w0 (w.setRow B c) :=
 hi.below.trans ⟨rfl, rfl, rfl, by simp, fun k hk => bB w B c (by omega)⟩
theorem Inv.storeBox (hi : Inv w0 g h n w) {n' : Nat → Nat} {i B : Nat} {el : TypeId} {cs cs' : List AV} {vs vs' ex : List Value} (hc : h[i]? = some (.cells cs)) (hB : g.bx i = some B)
  (hlv : vs.length = cs.length) (hh : w.heap[B]? = some (.cells (vs ++ ex).toArray el (0, 0))) (hv : VL g cs' vs') (ho : aM cs' = true) (hov : OVL w0 g w cs' vs') (hn : ∀ b, n' b + tkL cs' vs' b ≤ n b + tkL cs vs b) (hn' : ∀ b, 0 < n' b → b < w.heap.size ∧ ∀ i x, h[i]? = some x → x ≠ .dead → g.bx i ≠ some b) :
  Inv w0 g (h.set i (.cells cs')) n' (w.setRow B (vs' ++ ex).toArray) ∧ Keep n' g w g (w.setRow B (vs' ++ ex).toArray) ∧
   (∀ (cs : List AV) (vs : List Value), VL g cs vs → OVL w0 g w cs vs → OVL w0 g (w.setRow B (vs' ++ ex).toArray) cs vs) := by
 obtain ⟨bv, e1, e2, e3⟩ := hi.rest
 have hil : i < h.length := (List.getElem?_eq_some_iff.1 hc).1
 obtain ⟨xs, hx⟩ : ∃ xs, bv[i]? = some xs := ⟨bv[i], by simp [e1, hil]⟩
 obtain ⟨B', el', ex', h1, h2, h3, h4, ho', h5, h6⟩ := e2 i _ xs hc hx
 have hBB : B' = B := by rw [hB] at h1; cases h1; rfl
 subst hBB
 have hxs : xs = vs ∧ ex' = ex := by
  rw [hh] at h3; injection h3 with h3; injection h3 with h3
  have := congrArg Array.toList h3
  simp only [List.toList_toArray] at this
  have hl := VL.length h4
  exact (List.append_inj this.symm (by omega))
 obtain ⟨rfl, rfl⟩ := hxs
 have hnp : ∀ b, (∃ o u, g.prot b o = some u) → b ≠ B' := fun b ⟨o, u, hu⟩ e => by subst e; rw [h6 o] at hu; cases hu
 have hovl : ∀ (cs : List AV) (vs : List Value), VL g cs vs → OVL w0 g w cs vs → OVL w0 g (w.setRow B' (vs' ++ ex').toArray) cs vs := fun ds us hd hu =>
  OVL.keep hu fun b hb => ⟨bB w B' _ (hnp b (dE hd hb)), fun _ => rfl⟩
 refine ⟨⟨hi.gw, hi.gl, hi.setRowBelow h2 _, fun b p v hp => ?_, fun j b hj => ?_, hi.inj, fun b hb => ?_, bv.set i vs', by simp [e1], fun j b ys hj hy => ?_, fun b => ?_⟩, fun b hb => ?_, hovl⟩
 ·have hne := hnp b ⟨p, v, hp⟩
  rw [cell?_of_heap (bB w B' _ hne)]; exact hi.prot b p v hp
 ·have := hi.bxd _ _ hj; simp; omega
 ·obtain ⟨t1, t2⟩ := hn' b hb
  refine ⟨by simp; omega, fun j x hj hd => ?_⟩
  by_cases hji : j = i
  ·subst hji; exact t2 j _ hc (by simp)
  ·rw [List.getElem?_set_ne (by omega)] at hj; exact t2 j x hj hd
 ·by_cases hji : j = i
  ·subst hji
   rw [List.getElem?_set_self hil] at hj
   rw [List.getElem?_set_self (by omega)] at hy
   cases hj; cases hy
   refine ⟨B', el, ex', hB, h2, ?_, hv, ho, hovl _ _ hv hov, h6⟩
   exact setRow_heap w B' _ _ _ _ hh
  ·rw [List.getElem?_set_ne (by omega)] at hj
   rw [List.getElem?_set_ne (by omega)] at hy
   have hb := e2 j b ys hj hy
   refine hb.keep (Gh.le.refl g) (fun _ b hb => ⟨bB w B' _ ?_, fun x => x⟩) (fun b hb' => ⟨bB w B' _ (hnp b (hb.tk_prot hb')), fun _ => rfl⟩)
   intro e; subst e; exact hji (hi.inj _ _ _ hb hB)
 ·have := rn e1 (b' := .cells cs') (vs' := vs') hc hx b
  have := e3 b; have := hn b
  simp only [tkB] at *; omega
 ·exact ⟨bB w B' _ (fun e => (hn' b hb).2 i _ hc (by simp) (e ▸ hB)), fun _ => rfl⟩
theorem Inv.appendTail (hi : Inv w0 g h n w) {n1 : Nat → Nat} {B e : Nat} {cur : Array Value} {t : TypeId} {vs : List Value} (hn : ∀ b, n1 b + (if B = b then 1 else 0) ≤ n b) (hpq : ∃ o u, g.prot B o = some u)
  (hB : w0.heap.size ≤ B) (hp : ∀ o, e ≤ o → g.prot B o = none) (hh : w.heap[B]? = some (.cells cur t (0, 0))) (hlen : e + vs.length ≤ cur.size) :
  Inv w0 (g.addProt B e vs) h n (w.setRow B (cur.toList.take e ++ vs ++ cur.toList.drop (e + vs.length)).toArray) ∧ g.le (g.addProt B e vs) ∧
   Keep n1 g w (g.addProt B e vs) (w.setRow B (cur.toList.take e ++ vs ++ cur.toList.drop (e + vs.length)).toArray) ∧
   (∀ (cs : List AV) (us : List Value), (∀ b, tkL cs us b ≤ n1 b) → OVL w0 g w cs us → OVL w0 (g.addProt B e vs) (w.setRow B (cur.toList.take e ++ vs ++ cur.toList.drop (e + vs.length)).toArray) cs us) := by
 have hle : g.le (g.addProt B e vs) := Gh.le_addProt hp
 obtain ⟨bv, e1, e2, e3⟩ := hi.rest
 have hn1 : n1 B = 0 := by have := e3 B; have := hn B; simp at this; omega
 have hpne : ∀ b p, b ≠ B → (g.addProt B e vs).prot b p = g.prot b p := fun b p hb => Gh.addProt_other (.inl hb)
 have hBt : tkBs h bv B = 0 := by have := e3 B; have := hn B; simp at this; omega
 have hnbox : ∀ i b, g.bx i = some b → (∃ y, h[i]? = some y ∧ y ≠ .dead) → b ≠ B := by
  rintro i b hb ⟨y, hy, hd⟩ rfl
  exact (hi.prot_ok hpq).2 i y hy hd hb
 have hcell : ∀ p v, p < e → w.cell? ⟨B, p, none⟩ = some v → (w.setRow B (cur.toList.take e ++ vs ++ cur.toList.drop (e + vs.length)).toArray).cell? ⟨B, p, none⟩ = some v := by
  intro p v hpe hv
  have h3 : (w.setRow B (cur.toList.take e ++ vs ++ cur.toList.drop (e + vs.length)).toArray).heap[B]? = _ := setRow_heap w B _ _ _ _ hh
  simp only [World.cell?, hh, h3] at hv ⊢
  simp only [Option.isSome_none, Bool.false_eq_true, if_false] at hv ⊢
  rw [List.getElem?_toArray, List.append_assoc, List.getElem?_append_left (by simp; omega), List.getElem?_take, if_pos hpe]
  simpa using hv
 refine ⟨⟨hi.gw, hi.gl.mono hle.prot, hi.setRowBelow hB _, fun b p v hv => ?_, fun i b hb => ?_, hi.inj, fun b hb => ?_, bv, e1, fun i b ys hb hy => ?_, e3⟩, hle, fun b hb => ?_, fun cs us ht hu => ?_⟩
 ·by_cases hbB : b = B
  ·subst hbB
   simp only [Gh.addProt] at hv
   split at hv
   ·rename_i hc
    have h3 : (w.setRow b (cur.toList.take e ++ vs ++ cur.toList.drop (e + vs.length)).toArray).heap[b]? = _ := setRow_heap w b _ _ _ _ hh
    simp only [World.cell?, h3]
    simp only [Option.isSome_none, Bool.false_eq_true, if_false]
    have hel : (cur.toList.take e).length = e := by simp; omega
    rw [List.getElem?_toArray, List.append_assoc, List.getElem?_append_right (by omega), hel, List.getElem?_append_left (by omega)]
    exact hv
   ·have hv' := hi.prot b p v hv
    have hpe : p < e := by
     rcases Nat.lt_or_ge p e with h' | h'
     ·exact h'
     ·rw [hp p h'] at hv; cases hv
    exact hcell p v hpe hv'
  ·rw [hpne b p hbB] at hv
   rw [cell?_of_heap (bB w B _ hbB)]; exact hi.prot b p v hv
 ·have := hi.bxd _ _ hb; simp; omega
 ·obtain ⟨t1, t2⟩ := hi.tokp b hb; exact ⟨by simp; omega, t2⟩
 ·have hbx := e2 i b ys hb hy
  refine hbx.keep hle (fun hd b' hb' => ?_) (fun b' hb' => ?_)
  ·have hne := hnbox i b' hb' ⟨b, hb, hd⟩
   exact ⟨bB w B _ hne, fun hnn p => by rw [hpne b' p hne]; exact hnn p⟩
  ·have hne : b' ≠ B := by
    intro e; subst e
    have := mq hb hy b'; omega
   exact ⟨bB w B _ hne, fun p => hpne b' p hne⟩
 ·have hne : b ≠ B := by intro e; subst e; omega
  exact ⟨bB w B _ hne, fun p => hpne b p hne⟩
 ·refine OVL.keep hu fun b hb => ?_
  have hne : b ≠ B := by intro e; subst e; have := ht b; omega
  exact ⟨bB w B _ hne, fun p => hpne b p hne⟩
end
end Go.Proofs.YtibchilpaaiecaaGreatDoor.M
