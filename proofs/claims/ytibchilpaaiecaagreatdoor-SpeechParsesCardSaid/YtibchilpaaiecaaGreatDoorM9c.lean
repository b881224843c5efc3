/- Maps whose keys are whole numbers, strings or bools. -/
import Derived.Test.YtibchilpaaiecaaGreatDoorM9b
import Derived.MapKept
import Derived.Laws.StructEq
set_option linter.unusedVariables false
set_option linter.unusedSimpArgs false
namespace Go.Proofs.YtibchilpaaiecaaGreatDoor.M
open Go.RowKit
def eqK : AV → AV → Option Bool
 | .int k a, .int k' b => if k = k' then some (a == b) else none
 | .str s, .str t => some (s == t)
 | .bool a, .bool b => some (a == b)
 | _, _ => none
def yk (k : AV) : List (AV × AV) → Nat → Option (Option (Nat × AV))
 | [], _ => some none
 | e :: es, i => match eqK k e.1 with
  | some true => some (some (i, e.2))
  | some false => yk k es (i + 1)
  | none => none
def keyD : TypeDesc → AV → Bool
 | .int _, .int _ _ => true
 | .string, .str _ => true
 | .bool, .bool _ => true
 | _, _ => false
section
variable {P : Program} {w0 w : World} {g : Gh} {h : AH} {n : Nat → Nat}
theorem zq {d : TypeDesc} {k k' : AV} {u u' : Value} {b : Bool} (hd : keyD d k = true) (hu : VR g k u) (hu' : VR g k' u') (he : eqK k k' = some b) : Instr.sameNow d u u' = some b := by
 cases k <;> cases k' <;> simp only [eqK] at he <;> try (cases he; done)
 all_goals
  cases d <;> simp only [keyD, Bool.false_eq_true] at hd
  simp only [VR] at hu hu'
  subst hu hu'
  simpa only [Instr.sameNow] using he
theorem mz {d : TypeDesc} {k : AV} {u : Value} (hd : keyD d k = true) (hu : VR g k u) : ∀ {es : List (AV × AV)} {ms : List MapEntry} {i : Nat} {r : Option (Nat × AV)}, ME g es ms → yk k es i = some r →
  (r = none ∧ Instr.findNow d u ms i = some none) ∨ ∃ j v z, r = some (j, v) ∧ Instr.findNow d u ms i = some (some (j, z)) ∧ VR g v z ∧ v.cl = true ∧ i ≤ j ∧ ∃ e m, es[j - i]? = some e ∧ ms[j - i]? = some m ∧ eqK k e.1 = some true ∧ VR g e.1 m.key
 | [], ms, i, r, hm, hf => by
  simp only [ME] at hm
  simp only [yk, Option.some.injEq] at hf
  subst hm hf
  exact .inl ⟨rfl, rfl⟩
 | (k', v) :: es, ms, i, r, hm, hf => by
  simp only [ME] at hm
  obtain ⟨m, ms', rfl, q1, q2, q3, q4, q5⟩ := hm
  simp only [yk] at hf
  cases e : eqK k k' with
  | none => rw [e] at hf; cases hf
  | some b =>
   have hs := zq hd hu q1 e
   rw [e] at hf
   cases b with
   | true =>
    simp only [Option.some.injEq] at hf; subst hf
    exact .inr ⟨i, v, m.val, rfl, by simp [Instr.findNow, hs], q2, q4, Nat.le_refl _, (k', v), m, by simp, by simp, e, q1⟩
   | false =>
    rcases mz hd hu (i := i + 1) q5 hf with ⟨h1, h2⟩ | ⟨j, v', z, h1, h2, h3, h4, h5, e', m', h6, h7, h8, h9⟩
    ·exact .inl ⟨h1, by simp [Instr.findNow, hs, h2]⟩
    ·refine .inr ⟨j, v', z, h1, by simp [Instr.findNow, hs, h2], h3, h4, by omega, e', m', ?_, ?_, h8, h9⟩
     ·rw [show j - i = (j - (i + 1)) + 1 by omega]; simpa using h6
     ·rw [show j - i = (j - (i + 1)) + 1 by omega]; simpa using h7
theorem p9 {kt : TypeId} {d : TypeDesc} {k : AV} {u : Value} (hk : P.underlying kt = some d) (hd : keyD d k = true) (hu : VR g k u) (b : Bool) (m : Nat) : (Instr.checkKey b (m + 1) kt u).run P w = .ok () w := by
 cases k <;> cases d <;> simp only [keyD, Bool.false_eq_true] at hd
 all_goals
  simp only [VR] at hu
  subst hu
  simp [Instr.checkKey, run_underlying hk]
theorem dB {kt : TypeId} {d : TypeDesc} {k : AV} {u : Value} (hk : P.underlying kt = some d) (hd : keyD d k = true) (hu : VR g k u) (b : Bool) : (Instr.checkKey b 10000 kt u).run P w = .ok () w := p9 hk hd hu b 9999
theorem dW {kt : TypeId} {d : TypeDesc} {u : Value} {ms : List MapEntry} {r : Option (Nat × Value)} (hk : P.underlying kt = some d) (hf : Instr.findNow d u ms 0 = some r) : (Instr.findKey kt u ms).run P w = .ok r w := by
 simp [Instr.findKey, run_underlying hk, hf]
def qa (h : AH) : AV → Option (List (AV × AV))
 | .nilm => some []
 | .mp id => match h[id]? with | some (.amap es) => some es | _ => none
 | _ => none
def zr (z : AV) (ok : Bool) (r : Option (Nat × AV)) : AV :=
 match r with
 | some p => if ok then .tup [p.2, .bool true] else p.2
 | none => if ok then .tup [z, .bool false] else z
def yl (d : TypeDesc) (z : AV) (ok : Bool) (h : AH) (m k : AV) : Option AV := if keyD d k = true then (qa h m).bind fun es => (yk k es 0).map (zr z ok) else none
def ym (h : AH) (m : AV) : Option AV := (qa h m).map fun es => .int .i64 es.length
def IQ (k v : AV) (es : List (AV × AV)) : Option (List (AV × AV)) :=
 match yk k es 0 with
 | some (some p) => some (es.set p.1 (k, v))
 | some none => some (es ++ [(k, v)])
 | none => none
def IU (k v : AV) : Option Bx → Option Bx
 | some (.amap es) => (IQ k v es).map .amap
 | _ => none
def FF (d : TypeDesc) (h : AH) (k v : AV) : AV → Option AH
 | .mp id => if keyD d k = true then (IU k v h[id]?).map fun b => h.set id b else none
 | _ => none
theorem vw (hi : Inv w0 g h n w) {m : AV} {u : Value} {es : List (AV × AV)} (hu : VR g m u) (he : qa h m = some es) :
  (u = .map none ∧ es = []) ∨ ∃ id B en clock, m = .mp id ∧ g.bx id = some B ∧ u = .map (some B) ∧ h[id]? = some (.amap es) ∧ w0.heap.size ≤ B ∧ w.heap[B]? = some (.map en clock) ∧ ME g es en.toList ∧ gS g B := by
 cases m <;> simp only [qa] at he <;> try (cases he; done)
 ·simp only [VR] at hu
  cases he
  exact .inl ⟨hu, rfl⟩
 ·rename_i id
  simp only [VR] at hu
  obtain ⟨B, hB, rfl⟩ := hu
  cases e : h[id]? with
  | none => rw [e] at he; cases he
  | some b =>
   rw [e] at he
   cases b <;> simp only at he <;> try (cases he; done)
   cases he
   obtain ⟨bv, e1, e2, e3⟩ := hi.rest
   have hlt : id < h.length := (List.getElem?_eq_some_iff.1 e).1
   obtain ⟨B', en, cl, q1, q2, q3, q4, q5⟩ := e2 id _ bv[id] e (by simp [e1, hlt])
   rw [hB] at q1; cases q1
   exact .inr ⟨id, B, en, cl, rfl, hB, rfl, e, q2, q3, q4, q5⟩
theorem yn {K : AV → Prop} {t kt et : TypeId} {d : TypeDesc} {z : Value} {za : AV} {ok : Bool} {m k : AV} {um uk : Value} (hi : Inv w0 g h n w) (ht : P.underlying t = some (.map kt et)) (hk : P.underlying kt = some d)
  (hz : ∀ w : World, (zeroValue et).run P w = .ok z w) (hza : VR g za z) (hzc : za.cl = true) (hm : VR g m um) (hu : VR g k uk) {r : AV} (hr : yl d za ok h m k = some r) (hK : K r) :
  ∃ r z, (Instr.lookup t um uk ok).run P w = .ok z w ∧ VR g r z ∧ r.cl = true ∧ K r := by
 unfold yl at hr
 split at hr <;> try (cases hr; done)
 rename_i hd
 simp only [Option.bind_eq_some_iff, Option.map_eq_some_iff] at hr
 obtain ⟨es, he, p, hf, rfl⟩ := hr
 have hall : ∃ ms : Array MapEntry, ME g es ms.toList ∧ ∀ (q : Option (Nat × Value)), Instr.findNow d uk ms.toList 0 = some q → (Instr.lookup t um uk ok).run P w = .ok (match q with | some (_, v) => if ok then .tuple #[v, .bool true] else v | none => if ok then .tuple #[z, .bool false] else z) w := by
  rcases vw hi hm he with ⟨rfl, rfl⟩ | ⟨id, B, en, cl, rfl, hB, rfl, h1, h2, h3, h4, h5⟩
  ·refine ⟨#[], by simp [ME], fun q hq => ?_⟩
   simp only [Array.toList_empty] at hq
   cases q with
   | none => cases ok <;> simp [Instr.lookup, run_underlying ht, dB hk hd hu, dW hk hq, hz]
   | some p => cases ok <;> simp [Instr.lookup, run_underlying ht, dB hk hd hu, dW hk hq]
  ·refine ⟨en, h4, fun q hq => ?_⟩
   cases q with
   | none => cases ok <;> simp [Instr.lookup, run_underlying ht, MapKept.run_getObj_map h3, dB hk hd hu, dW hk hq, hz]
   | some p => cases ok <;> simp [Instr.lookup, run_underlying ht, MapKept.run_getObj_map h3, dB hk hd hu, dW hk hq]
 obtain ⟨ms, hme, hfin⟩ := hall
 rcases mz hd hu hme hf with ⟨rfl, h2⟩ | ⟨j, v, zz, rfl, h2, h3, h4, _⟩
 ·refine ⟨_, _, hfin _ h2, ?_, ?_, hK⟩
  ·cases ok <;> simp only [zr, Bool.false_eq_true, if_false, if_true]
   ·exact hza
   ·simp only [VR]; exact ⟨_, rfl, by simp [VL, VR, hza]⟩
  ·cases ok <;> simp only [zr, Bool.false_eq_true, if_false, if_true, AV.cl, clL, hzc]; rfl
 ·refine ⟨_, _, hfin _ h2, ?_, ?_, hK⟩
  ·cases ok <;> simp only [zr, Bool.false_eq_true, if_false, if_true]
   ·exact h3
   ·simp only [VR]; exact ⟨_, rfl, by simp [VL, VR, h3]⟩
  ·cases ok <;> simp only [zr, Bool.false_eq_true, if_false, if_true, AV.cl, clL, h4]; rfl
theorem ME.length : ∀ {es : List (AV × AV)} {ms : List MapEntry}, ME g es ms → ms.length = es.length
 | [], ms, h => by simp only [ME] at h; simp [h]
 | (k, v) :: es, ms, h => by
  simp only [ME] at h
  obtain ⟨m, ms', rfl, _, _, _, _, q5⟩ := h
  simp [ME.length q5]
theorem yo {K : AV → Prop} {t ty kt et : TypeId} {m : AV} {um : Value} (hi : Inv w0 g h n w) (ht : P.underlying t = some (.map kt et)) (hm : VR g m um) {r : AV} (hr : ym h m = some r) (hK : K r) :
  ∃ r z, (Builtin.len_ #[t] ty #[um]).run P w = .ok z w ∧ VR g r z ∧ r.cl = true ∧ K r := by
 simp only [ym, Option.map_eq_some_iff] at hr
 obtain ⟨es, he, rfl⟩ := hr
 rcases vw hi hm he with ⟨rfl, rfl⟩ | ⟨id, B, en, cl, rfl, hB, rfl, h1, h2, h3, h4, h5⟩
 ·exact hZ hK (by simp [Builtin.len_, run_underlying ht, goInt])
 ·have hl := h4.length
  rw [Array.length_toList] at hl
  exact hZ hK (by simp [Builtin.len_, run_underlying ht, MapKept.run_getObj_map h3, goInt, hl])
end
end Go.Proofs.YtibchilpaaiecaaGreatDoor.M
/- Maps: a new one, and an entry put. -/
set_option linter.unusedVariables false
set_option linter.unusedSimpArgs false
namespace Go.Proofs.YtibchilpaaiecaaGreatDoor.M
open Go.RowKit
def setM (w : World) (B : Nat) (en : Array MapEntry) (clock : Nat) : World := { w with heap := w.heap.setIfInBounds B (.map en clock) }
section
variable {P : Program} {w0 w : World} {ds : List Deferred} {g : Gh} {h : AH} {n : Nat → Nat} {σ : List AV} {a : Act}
theorem zt {B : Nat} {o : Obj} {en : Array MapEntry} {clock : Nat} (hb : w.heap[B]? = some o) : (setM w B en clock).heap[B]? = some (.map en clock) ∧ ∀ r', r' ≠ B → (setM w B en clock).heap[r']? = w.heap[r']? := MapKept.heap_set hb
theorem oR {B : Nat} {en : Array MapEntry} {clock : Nat} : (setM w B en clock).heap.size = w.heap.size := by simp [setM]
theorem Inv.allocMap (hi : Inv w0 g h n w) : Inv w0 (g.addBox h.length w.heap.size) (h ++ [.amap []]) n (w.alloc (.map #[] 0)) := by
 have hbn := hi.bx_none
 have hle : g.le (g.addBox h.length w.heap.size) := Gh.le_addBox hbn
 have hp : ∀ B p, B ≠ w.heap.size → (g.addBox h.length w.heap.size).prot B p = g.prot B p := fun _ _ _ => rfl
 obtain ⟨bv, e1, e2, e3⟩ := hi.rest
 refine ⟨hi.gw, hi.gl.mono hle.prot, hi.below.alloc hi.below.size _, fun B p v hv => cell?_alloc_keep _ _ (hi.prot B p v hv), fun i B hB => ?_, fun i j B h1 h2 => ?_, fun B hB => ?_, bv ++ [[]], by simp [e1], ?_, fun B => ?_⟩
 ·simp only [Gh.addBox] at hB
  split at hB
  ·cases hB; simp; omega
  ·have := hi.bxd _ _ hB; simp; omega
 ·simp only [Gh.addBox] at h1 h2
  split at h1 <;> split at h2
  ·omega
  ·cases h1; exact absurd (hi.bxd _ _ h2).2 (Nat.lt_irrefl _)
  ·cases h2; exact absurd (hi.bxd _ _ h1).2 (Nat.lt_irrefl _)
  ·exact hi.inj _ _ _ h1 h2
 ·obtain ⟨t1, t2⟩ := hi.tokp B hB
  refine ⟨by simp; omega, fun i b hb hd => ?_⟩
  simp only [Gh.addBox]
  split
  ·intro he; cases he; omega
  ·rename_i hne
   have : i < h.length := by have := (List.getElem?_eq_some_iff.1 hb).1; simp at this; omega
   rw [List.getElem?_append_left this] at hb
   exact t2 i b hb hd
 ·intro i b xs hb hx
  by_cases hlt : i < h.length
  ·rw [List.getElem?_append_left hlt] at hb
   rw [List.getElem?_append_left (by omega)] at hx
   exact hi.allocStep _ hle hp (e2 i b xs hb hx)
  ·have : i = h.length := by
    have := (List.getElem?_eq_some_iff.1 hb).1; simp at this; omega
   subst this
   simp at hb
   subst hb
   exact ⟨w.heap.size, #[], 0, by simp [Gh.addBox], hi.below.size, heap_alloc_new w (.map #[] 0), by simp [ME], fun p => hi.prot_new (Nat.le_refl _) p⟩
 ·rw [jd e1]
  have := e3 B; simp only [tkB]; omega
theorem vz {o : Oper} {K : List AV → AH → Prop} {Q : Exit → Act → World → Prop} {t : TypeId} (hop : o.op = .makeMap t none) (hs : SR ds w0 g n σ h a w) (hK : K (putA σ o.dst (.mp h.length)) (h ++ [.amap []])) : o.wp P a w (bI ds w0 g n w K) Q := by
 have hle : g.le (g.addBox h.length w.heap.size) := Gh.le_addBox hs.inv.bx_none
 have hp : ∀ B p, B ≠ w.heap.size → (g.addBox h.length w.heap.size).prot B p = g.prot B p := fun _ _ _ => rfl
 have hi := hs.inv.allocMap
 have hk : Keep n g w (g.addBox h.length w.heap.size) (w.alloc (.map #[] 0)) := (hs.inv.keepAlloc _ hp).le fun B => by omega
 have hs' : SR ds w0 (g.addBox h.length w.heap.size) n σ (h ++ [.amap []]) a (w.alloc (.map #[] 0)) :=
  ⟨VL.mono hle _ _ hs.vl, OVL.alloc hs.inv _ hp hs.vl hs.ov, hi, hs.df⟩
 refine fx (u := .map (some w.heap.size)) ?_ hle hk (hs'.put o.dst (v := .mp h.length) ⟨w.heap.size, by simp [Gh.addBox], rfl⟩ rfl) hK
 have hr : (Instr.makeMap t none).run P w = .ok (.map (some w.heap.size)) (w.alloc (.map #[] 0)) := rfl
 simp [execOp, hop, hr]
theorem Inv.storeMap (hi : Inv w0 g h n w) {i B : Nat} {es es' : List (AV × AV)} {en en' : Array MapEntry} {clock clock' : Nat} (hc : h[i]? = some (.amap es)) (hB : g.bx i = some B) (h2 : w0.heap.size ≤ B)
  (hh : w.heap[B]? = some (.map en clock)) (hm : ME g es' en'.toList) (h6 : gS g B) :
  Inv w0 g (h.set i (.amap es')) n (setM w B en' clock') ∧ Keep n g w g (setM w B en' clock') ∧ (∀ (cs : List AV) (vs : List Value), VL g cs vs → OVL w0 g w cs vs → OVL w0 g (setM w B en' clock') cs vs) := by
 obtain ⟨bv, e1, e2, e3⟩ := hi.rest
 have hil : i < h.length := (List.getElem?_eq_some_iff.1 hc).1
 obtain ⟨s1, s2⟩ := zt (en := en') (clock := clock') hh
 have hnp : ∀ b, (∃ o u, g.prot b o = some u) → b ≠ B := fun b ⟨o, u, hu⟩ e => by subst e; rw [h6 o] at hu; cases hu
 have hovl : ∀ (cs : List AV) (vs : List Value), VL g cs vs → OVL w0 g w cs vs → OVL w0 g (setM w B en' clock') cs vs := fun ds us hd hu =>
  OVL.keep hu fun b hb => ⟨s2 b (hnp b (dE hd hb)), fun _ => rfl⟩
 have hnB : ∀ b, 0 < n b → b ≠ B := fun b hb e => (hi.tokp b hb).2 i _ hc (by simp) (e ▸ hB)
 refine ⟨⟨hi.gw, hi.gl, hi.below.trans ⟨rfl, rfl, rfl, by rw [oR]; exact Nat.le_refl _, fun k hk => s2 k (by omega)⟩, fun b p v hp => ?_, fun j b hj => ?_, hi.inj, fun b hb => ?_, bv, by simp [e1], fun j b ys hj hy => ?_, fun b => ?_⟩, fun b hb => ?_, hovl⟩
 ·rw [cell?_of_heap (s2 b (hnp b ⟨p, v, hp⟩))]; exact hi.prot b p v hp
 ·have := hi.bxd _ _ hj; rw [oR]; simp; omega
 ·obtain ⟨t1, t2⟩ := hi.tokp b hb
  refine ⟨by rw [oR]; exact t1, fun j x hj hd => ?_⟩
  by_cases hji : j = i
  ·subst hji; exact t2 j _ hc (by simp)
  ·rw [List.getElem?_set_ne (by omega)] at hj; exact t2 j x hj hd
 ·by_cases hji : j = i
  ·subst hji
   rw [List.getElem?_set_self hil] at hj
   cases hj
   exact ⟨B, en', clock', hB, h2, s1, hm, h6⟩
  ·rw [List.getElem?_set_ne (by omega)] at hj
   have hb := e2 j b ys hj hy
   refine hb.keep (Gh.le.refl g) (fun _ b hb => ⟨s2 b ?_, fun x => x⟩) (fun b hb' => ⟨s2 b (hnp b (hb.tk_prot hb')), fun _ => rfl⟩)
   intro e; subst e; exact hji (hi.inj _ _ _ hb hB)
 ·have ht : tkBs (h.set i (.amap es')) bv b = tkBs h bv b := by
   have : ∀ (h : AH) (bv : List (List Value)) (i : Nat), h[i]? = some (.amap es) → tkBs (h.set i (.amap es')) bv b = tkBs h bv b := by
    intro h
    induction h with
    | nil => intro bv i hi; simp at hi
    | cons x xs ih =>
     intro bv i hi
     cases bv with
     | nil => cases i <;> rfl
     | cons y ys =>
      cases i with
      | zero => simp at hi; subst hi; simp [tkBs, tkB]
      | succ i => simp only [List.set_cons_succ, tkBs]; rw [ih ys i (by simpa using hi)]
   exact this h bv i hc
  rw [ht]; exact e3 b
 ·exact ⟨s2 b (hnB b hb), fun _ => rfl⟩
theorem ME.set {k v : AV} {ku u : Value} (hk : VR g k ku) (hv : VR g v u) (hkc : k.cl = true) (hvc : v.cl = true) : ∀ {es : List (AV × AV)} {ms : List MapEntry} (i : Nat) {b : Nat → Nat}, ME g es ms → i < es.length → ∀ m', m'.key = ku → m'.val = u → ME g (es.set i (k, v)) (ms.set i m')
 | [], ms, i, _, hm, hi, _, _, _ => by simp at hi
 | (k', v') :: es, ms, i, b, hm, hi, m', h1, h2 => by
  simp only [ME] at hm
  obtain ⟨m, ms', rfl, q1, q2, q3, q4, q5⟩ := hm
  cases i with
  | zero => simp only [List.set_cons_zero, ME]; exact ⟨m', ms', rfl, by rw [h1]; exact hk, by rw [h2]; exact hv, hkc, hvc, q5⟩
  | succ i => simp only [List.set_cons_succ, ME]; exact ⟨m, _, rfl, q1, q2, q3, q4, ME.set hk hv hkc hvc i (b := b) q5 (by simpa using hi) m' h1 h2⟩
theorem ME.snoc {k v : AV} {m' : MapEntry} (hk : VR g k m'.key) (hv : VR g v m'.val) (hkc : k.cl = true) (hvc : v.cl = true) : ∀ {es : List (AV × AV)} {ms : List MapEntry}, ME g es ms → ME g (es ++ [(k, v)]) (ms ++ [m'])
 | [], ms, hm => by simp only [ME] at hm; subst hm; simp only [List.nil_append, ME]; exact ⟨m', [], rfl, hk, hv, hkc, hvc, rfl⟩
 | (k', v') :: es, ms, hm => by
  simp only [ME] at hm
  obtain ⟨m, ms', rfl, q1, q2, q3, q4, q5⟩ := hm
  simp only [List.cons_append, ME]
  exact ⟨m, _, rfl, q1, q2, q3, q4, ME.snoc hk hv hkc hvc q5⟩
theorem Kv {a b : ByteArray} (h : (a == b) = true) : a = b := by
 cases a with | mk a => cases b with | mk b =>
  have : (a == b) = true := h
  rw [eq_of_beq this]
theorem FG (a : ByteArray) : (a == a) = true := by
 cases a with | mk a =>
  show (a == a) = true
  exact beq_self_eq_true a
theorem CH {d : TypeDesc} {k k' : AV} {u u' : Value} (hd : keyD d k = true) (hu : VR g k u) (hu' : VR g k' u') (he : eqK k k' = some true) (m : Nat) : Instr.sameBits (m + 1) u' u = true ∧ u' = u := by
 cases k <;> cases k' <;> simp only [eqK] at he <;> try (cases he; done)
 all_goals
  simp only [VR] at hu hu'
  subst hu hu'
 ·split at he <;> simp at he
  rename_i hk
  subst hk; subst he
  simp [Instr.sameBits]
 all_goals
  simp only [Option.some.injEq] at he
  first
   | (obtain rfl := Kv he; exact ⟨by simp only [Instr.sameBits]; exact FG _, rfl⟩)
   | (obtain rfl := eq_of_beq he; exact ⟨by simp [Instr.sameBits], rfl⟩)
theorem rE {α : Type} {en : Array α} {i : Nat} {f : α → α} {m : α} (h : en.toList[i]? = some m) : (en.modify i f).toList = en.toList.set i (f m) := by
 apply List.ext_getElem?
 intro j
 rw [Array.getElem?_toList, Array.getElem?_modify]
 have hlt : i < en.toList.length := (List.getElem?_eq_some_iff.1 h).1
 by_cases hij : i = j
 ·subst hij
  rw [if_pos rfl, List.getElem?_set_self hlt, ← Array.getElem?_toList, h]; rfl
 ·rw [if_neg hij, List.getElem?_set_ne hij, Array.getElem?_toList]
theorem yp {o : Oper} {K : List AV → AH → Prop} {Q : Exit → Act → World → Prop} {t kt et : TypeId} {d : TypeDesc} {m k x : Operand} {m' k' x' : Opd} (hop : o.op = .mapUpdate t m k x) (hdst : o.dst = none)
  (ht : P.underlying t = some (.map kt et)) (hk : P.underlying kt = some d) (hm : aB m = some m') (hkk : aB k = some k') (hx : aB x = some x') (hs : SR ds w0 g n σ h a w) {h' : AH}
  (hr : FF d h (ag σ k') (ag σ x').sh (ag σ m') = some h') (hK : K σ h') : o.wp P a w (bI ds w0 g n w K) Q := by
 have vm := ai (a := a) hs.inv.gl hs.vl hm
 have vk := ai (a := a) hs.inv.gl hs.vl hkk
 have vx := VR.sh _ _ (ai (a := a) hs.inv.gl hs.vl hx)
 have cx : (ag σ x').sh.cl = true := la _
 generalize ag σ m' = pm at *
 generalize ag σ k' = pk at *
 generalize (ag σ x').sh = px at *
 cases pm <;> simp only [FF] at hr <;> try (cases hr; done)
 rename_i id
 split at hr <;> try (cases hr; done)
 rename_i hd
 simp only [Option.map_eq_some_iff] at hr
 obtain ⟨b, hb, rfl⟩ := hr
 cases e : h[id]? with
 | none => rw [e] at hb; cases hb
 | some bx =>
  rw [e] at hb
  cases bx <;> simp only [IU] at hb <;> try (cases hb; done)
  rename_i es
  simp only [Option.map_eq_some_iff] at hb
  obtain ⟨es', he', rfl⟩ := hb
  rcases vw hs.inv (m := .mp id) (u := a.eval m) (es := es) vm (by simp only [qa, e]) with ⟨hu, _⟩ | ⟨id', B, en, cl, hid, hB, hu, h1, h2, h3, h4, h5⟩
  ·simp only [VR] at vm; obtain ⟨B, _, hv⟩ := vm; rw [hu] at hv; cases hv
  cases hid
  have ck : pk.cl = true := by cases pk <;> cases d <;> simp [keyD] at hd <;> rfl
  unfold IQ at he'
  have fin : ∀ (en' : Array MapEntry) (cl' : Nat), ME g es' en'.toList → (Instr.mapUpdate t (a.eval m) (a.eval k) (a.eval x)).run P w = .ok () (setM w B en' cl') → o.wp P a w (bI ds w0 g n w K) Q := by
   intro en' cl' hme hrun
   obtain ⟨i1, i2, i3⟩ := hs.inv.storeMap (clock' := cl') h1 hB h2 h3 hme h5
   exact y9 (g' := g) (by simp [execOp, hop, hrun]) hdst (Gh.le.refl g) (i2.le fun B => by omega) ⟨hs.vl, i3 _ _ hs.vl hs.ov, i1, hs.df⟩ hK
  split at he'
  ·rename_i p hf
   simp only [Option.some.injEq] at he'; subst he'
   rcases mz hd vk h4 hf with ⟨hn, _⟩ | ⟨j, v, z, hp, q2, q3, q4, q5, ee, mm, q6, q7, q8, q9⟩
   ·cases hn
   ·cases hp
    simp only [Nat.sub_zero] at q6 q7
    obtain ⟨hsb, hkey⟩ := CH hd vk q9 q8 9999
    have hml := rE (f := fun e : MapEntry => { e with key := a.eval k, val := a.eval x }) q7
    refine fin (en.modify j fun e => { e with key := a.eval k, val := a.eval x }) cl ?_ ?_
    ·rw [hml]
     exact ME.set vk vx ck cx j (b := n) h4 (List.getElem?_eq_some_iff.1 q6).1 _ rfl rfl
    ·have q7' : en[j]? = some mm := by rw [← Array.getElem?_toList]; exact q7
     have hkts : (Instr.keyThatStays mm.key (a.eval k)).run P w = .ok (a.eval k) w := by
      unfold Instr.keyThatStays
      rw [if_pos hsb]; rfl
     rw [hu]
     simp [Instr.mapUpdate, run_underlying ht, MapKept.run_getObj_map h3, dB hk hd vk, dW hk q2, q7', hkts, MapKept.run_setObj_map _ h3, setM]
  ·rename_i hf
   simp only [Option.some.injEq] at he'; subst he'
   rcases mz hd vk h4 hf with ⟨_, q2⟩ | ⟨j, v, z, hp, _⟩
   ·refine fin (en.push { key := a.eval k, val := a.eval x, born := cl }) (cl + 1) ?_ ?_
    ·rw [Array.toList_push]
     exact ME.snoc vk vx ck cx h4
    ·rw [hu]
     simp [Instr.mapUpdate, run_underlying ht, MapKept.run_getObj_map h3, dB hk hd vk, dW hk q2, MapKept.run_setObj_map _ h3, setM]
   ·cases hp
  ·cases he'
end
end Go.Proofs.YtibchilpaaiecaaGreatDoor.M
/- == of structs whose fields are whole numbers, strings, bools. -/
set_option linter.unusedVariables false
set_option linter.unusedSimpArgs false
namespace Go.Proofs.YtibchilpaaiecaaGreatDoor.M
open Go.RowKit
def eqI (cs ds : List AV) : List (Nat × TypeDesc) → Option Bool
 | [] => some true
 | p :: r => match cs[p.1]?, ds[p.1]? with
  | some a, some b => if keyD p.2 a = true then (match eqK a b with | some true => eqI cs ds r | some false => some false | none => none) else none
  | _, _ => none
def eqsV (neg : Bool) (idx : List (Nat × TypeDesc)) : AV → AV → Option AV
 | .agg cs, .agg ds => (eqI cs ds idx).map fun b => .bool (b != neg)
 | _, _ => none
def FH : TypeDesc → Bool
 | .int _ | .bool | .string => true
 | _ => false
def FI (P : Program) (f : Field) : Option (Nat × TypeDesc) :=
 match P.underlying f.type with
 | some d => if f.name ≠ "_" ∧ FH d = true then some (f.offset, d) else none
 | none => none
def zu (P : Program) (t : TypeId) : Option (List (Nat × TypeDesc)) :=
 match P.underlying t with
 | some (.struct fs) => if P.stoodInHeld t = false ∧ P.eqGuardType P.depth t = false then fs.toList.mapM (FI P) else none
 | _ => none
section
variable {P : Program} {w0 w : World} {ds : List Deferred} {g : Gh} {h : AH} {n : Nat → Nat} {σ : List AV} {a : Act}
theorem zv {d : TypeDesc} {t : TypeId} {x y : AV} {u v : Value} {b : Bool} (hd : keyD d x = true) (ht : P.underlying t = some d) (hx : VR g x u) (hy : VR g y v) (he : eqK x y = some b) (m : Nat) : (Op.equalIn (m + 1) t u v).run P w = .ok b w := by
 cases x <;> cases y <;> simp only [eqK] at he <;> try (cases he; done)
 all_goals
  cases d <;> simp only [keyD, Bool.false_eq_true] at hd
  simp only [VR] at hx hy
  subst hx hy
 ·split at he <;> cases he
  rename_i hk
  subst hk
  exact run_equalIn_int w _ _ _ _ _ _ ht
 ·cases he; exact run_equalIn_bool' w _ _ _ _ ht
 ·cases he; rw [run_equalIn_string w _ _ _ _ ht, ← beq_toListBytes]
theorem tE {t : TypeId} {d : TypeDesc} {xs : Array Value} {off : Nat} {v : Value} (ht : P.underlying t = some d) (hl : FH d = true) (hv : xs[off]? = some v) : (part t xs off).run P w = .ok v w := by
 cases d <;> simp only [FH, Bool.false_eq_true] at hl
 all_goals simp [part, isAgg, run_underlying ht, hv]
theorem qG {cs ds : List AV} {xs ys : Array Value} (hx : VL g cs xs.toList) (hy : VL g ds ys.toList) (m : Nat) : ∀ {fs : List Field} {idx : List (Nat × TypeDesc)} {b : Bool}, fs.mapM (FI P) = some idx → eqI cs ds idx = some b → (Op.eqFields (m + 1) xs ys fs).run P w = .ok b w
 | [], idx, b, hm, he => by
  simp only [List.mapM_nil, Option.pure_def, Option.some.injEq] at hm; subst hm
  simp only [eqI, Option.some.injEq] at he; subst he
  simp [Op.eqFields]
 | f :: fs, idx, b, hm, he => by
  simp only [List.mapM_cons, Option.pure_def, Option.bind_eq_bind, Option.bind_eq_some_iff, Option.some.injEq] at hm
  obtain ⟨p, hp, idx', hi, rfl⟩ := hm
  unfold FI at hp
  split at hp <;> try (cases hp; done)
  rename_i d hd
  split at hp <;> cases hp
  rename_i hc
  simp only [eqI] at he
  split at he <;> try (cases he; done)
  rename_i x y hcx hcy
  split at he <;> try (cases he; done)
  rename_i hk
  obtain ⟨u, hu, vx⟩ := VL.get hx hcx
  obtain ⟨v, hv, vy⟩ := VL.get hy hcy
  have pu := tE (w := w) hd hc.2 (xs := xs) (off := f.offset) (v := u) (by simpa using hu)
  have pv := tE (w := w) hd hc.2 (xs := ys) (off := f.offset) (v := v) (by simpa using hv)
  simp only [Op.eqFields, if_pos hc.1, Sem.run_bind, pu, pv, Result.andThen_ok]
  split at he <;> try (cases he; done)
  ·rename_i hq
   rw [zv hk hd vx vy hq]
   simp only [Result.andThen_ok, Bool.not_true, Bool.false_eq_true, if_false]
   exact qG hx hy m hi he
  ·rename_i hq
   rw [zv hk hd vx vy hq]
   cases he
   simp
theorem zw {o : Oper} {K : List AV → AH → Prop} {Q : Exit → Act → World → Prop} {op : BinOp} {neg : Bool} {t u : TypeId} {x y : Operand} {x' y' : Opd} {idx : List (Nat × TypeDesc)} (hop : o.op = .binOp op t x y u) (hn : op = if neg then .neq else .eql)
  (hx : aB x = some x') (hy : aB y = some y') (ht : zu P t = some idx) (hs : SR ds w0 g n σ h a w) {v : AV} (hv : eqsV neg idx (ag σ x') (ag σ y') = some v) (hk : K (putA σ o.dst v) h) : o.wp P a w (bI ds w0 g n w K) Q := by
 have vx := ai (a := a) hs.inv.gl hs.vl hx
 have vy := ai (a := a) hs.inv.gl hs.vl hy
 generalize ag σ x' = p at *
 generalize ag σ y' = q at *
 cases p <;> cases q <;> simp only [eqsV] at hv <;> try (cases hv; done)
 rename_i cs ds
 simp only [Option.map_eq_some_iff] at hv
 obtain ⟨b, hb, rfl⟩ := hv
 simp only [VR] at vx vy
 obtain ⟨xs, hxs, lx, _⟩ := vx
 obtain ⟨ys, hys, ly, _⟩ := vy
 unfold zu at ht
 split at ht <;> try (cases ht; done)
 rename_i fs hfs
 split at ht <;> try (cases ht; done)
 rename_i hc
 have hf : P.fieldsOf t = fs := by unfold Program.fieldsOf; rw [hfs]
 have hrun : (Op.equalIn 10000 t (.agg xs) (.agg ys)).run P w = .ok b w := by
  show (Op.equalIn (9999 + 1) t (.agg xs) (.agg ys)).run P w = .ok b w
  rw [run_equalIn_struct w 9999 t xs ys (by rw [hf]; exact hfs) hc.1, hf]
  exact qG lx ly 9998 ht hb
 have hg := run_eqGuard_agg (P := P) w op t x y xs ys hc.2
 refine eF hs (v := .bool (b != neg)) (u := .bool (b != neg)) ?_ (by simp [VR]) rfl hk
 cases neg <;> subst hn <;> simp only [Bool.false_eq_true, if_false, if_true] at hg ⊢
 ·have := run_eql_struct (P := P) w t xs ys
  rw [hrun] at this
  simp [execOp, hop, hxs, hys, hg, this]
 ·have := run_neq_struct (P := P) w t xs ys
  rw [hrun] at this
  simp [execOp, hop, hxs, hys, hg, this]
end
end Go.Proofs.YtibchilpaaiecaaGreatDoor.M
