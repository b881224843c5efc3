/- Maps: a new one, and an entry put. -/
import Derived.Test.YtlehlpbhkfmkaaaM9c
set_option linter.unusedVariables false
set_option linter.unusedSimpArgs false
namespace Go.Proofs.Ytlehlpbhkfmkaaa.M
open Go.RowKit

def setM (w : World) (B : Nat) (en : Array MapEntry) (clock : Nat) : World := { w with heap := w.heap.setIfInBounds B (.map en clock) }

section
variable {P : Program} {w0 w : World} {g : Gh} {h : AH} {n : Nat → Nat} {σ : List AV} {a : Act}

theorem setM_heap {B : Nat} {o : Obj} {en : Array MapEntry} {clock : Nat} (hb : w.heap[B]? = some o) : (setM w B en clock).heap[B]? = some (.map en clock) ∧ ∀ r', r' ≠ B → (setM w B en clock).heap[r']? = w.heap[r']? := MapKept.heap_set hb
theorem setM_size {B : Nat} {en : Array MapEntry} {clock : Nat} : (setM w B en clock).heap.size = w.heap.size := by simp [setM]

theorem Inv.allocMap (hi : Inv w0 g h n w) : Inv w0 (g.addBox h.length w.heap.size) (h ++ [.amap []]) n (w.alloc (.map #[] 0)) := by
  have hbn := hi.bx_none
  have hle : g.le (g.addBox h.length w.heap.size) := Gh.le_addBox hbn
  have hp : ∀ B p, B ≠ w.heap.size → (g.addBox h.length w.heap.size).prot B p = g.prot B p := fun _ _ _ => rfl
  obtain ⟨bv, e1, e2, e3⟩ := hi.rest
  refine ⟨hi.below.alloc hi.below.size _, fun B p v hv => cell?_alloc_keep _ _ (hi.prot B p v hv), fun i B hB => ?_, fun i j B h1 h2 => ?_, fun B hB => ?_, bv ++ [[]], by simp [e1], ?_, fun B => ?_⟩
  · simp only [Gh.addBox] at hB
    split at hB
    · cases hB; simp; omega
    · have := hi.bxd _ _ hB; simp; omega
  · simp only [Gh.addBox] at h1 h2
    split at h1 <;> split at h2
    · omega
    · cases h1; exact absurd (hi.bxd _ _ h2).2 (Nat.lt_irrefl _)
    · cases h2; exact absurd (hi.bxd _ _ h1).2 (Nat.lt_irrefl _)
    · exact hi.inj _ _ _ h1 h2
  · obtain ⟨t1, t2⟩ := hi.tokp B hB
    refine ⟨by simp; omega, fun i b hb hd => ?_⟩
    simp only [Gh.addBox]
    split
    · intro he; cases he; omega
    · rename_i hne
      have : i < h.length := by have := (List.getElem?_eq_some_iff.1 hb).1; simp at this; omega
      rw [List.getElem?_append_left this] at hb
      exact t2 i b hb hd
  · intro i b xs hb hx
    by_cases hlt : i < h.length
    · rw [List.getElem?_append_left hlt] at hb
      rw [List.getElem?_append_left (by omega)] at hx
      exact hi.allocStep _ hle hp (e2 i b xs hb hx)
    · have : i = h.length := by
        have := (List.getElem?_eq_some_iff.1 hb).1; simp at this; omega
      subst this
      simp at hb
      subst hb
      exact ⟨w.heap.size, #[], 0, by simp [Gh.addBox], hi.below.size, heap_alloc_new w (.map #[] 0), by simp [ME], fun p => hi.prot_new (Nat.le_refl _) p⟩
  · rw [tkBs_append e1]
    have := e3 B; simp only [tkB]; omega

theorem mkmap_sound {o : Oper} {K : List AV → AH → Prop} {Q : Exit → Act → World → Prop} {t : TypeId} (hop : o.op = .makeMap t none) (hs : SR w0 g n σ h a w) (hK : K (putA σ o.dst (.mp h.length)) (h ++ [.amap []])) : o.wp P a w (OpPost w0 g n w K) Q := by
  have hle : g.le (g.addBox h.length w.heap.size) := Gh.le_addBox hs.inv.bx_none
  have hp : ∀ B p, B ≠ w.heap.size → (g.addBox h.length w.heap.size).prot B p = g.prot B p := fun _ _ _ => rfl
  have hi := hs.inv.allocMap
  have hk : Keep n g w (g.addBox h.length w.heap.size) (w.alloc (.map #[] 0)) := (hs.inv.keepAlloc _ hp).le fun B => by omega
  have hs' : SR w0 (g.addBox h.length w.heap.size) n σ (h ++ [.amap []]) a (w.alloc (.map #[] 0)) :=
    ⟨VL.mono hle _ _ hs.vl, OVL.alloc hs.inv _ hp hs.vl hs.ov, hi, hs.df⟩
  refine op_step (u := .map (some w.heap.size)) ?_ hle hk (hs'.put o.dst (v := .mp h.length) ⟨w.heap.size, by simp [Gh.addBox], rfl⟩ rfl) hK
  have hr : (Instr.makeMap t none).run P w = .ok (.map (some w.heap.size)) (w.alloc (.map #[] 0)) := rfl
  simp [execOp, hop, hr]

/-- A map's entries, others. -/
theorem Inv.storeMap (hi : Inv w0 g h n w) {i B : Nat} {es es' : List (AV × AV)} {en en' : Array MapEntry} {clock clock' : Nat} (hc : h[i]? = some (.amap es)) (hB : g.bx i = some B) (h2 : w0.heap.size ≤ B)
    (hh : w.heap[B]? = some (.map en clock)) (hm : ME g es' en'.toList) (h6 : ProtNone g B) :
    Inv w0 g (h.set i (.amap es')) n (setM w B en' clock') ∧ Keep n g w g (setM w B en' clock') ∧ (∀ (cs : List AV) (vs : List Value), VL g cs vs → OVL w0 g w cs vs → OVL w0 g (setM w B en' clock') cs vs) := by
  obtain ⟨bv, e1, e2, e3⟩ := hi.rest
  have hil : i < h.length := (List.getElem?_eq_some_iff.1 hc).1
  obtain ⟨s1, s2⟩ := setM_heap (en := en') (clock := clock') hh
  have hnp : ∀ b, (∃ o u, g.prot b o = some u) → b ≠ B := fun b ⟨o, u, hu⟩ e => by subst e; rw [h6 o] at hu; cases hu
  have hovl : ∀ (cs : List AV) (vs : List Value), VL g cs vs → OVL w0 g w cs vs → OVL w0 g (setM w B en' clock') cs vs := fun ds us hd hu =>
    OVL.keep hu fun b hb => ⟨s2 b (hnp b (tkL_pos_prot hd hb)), fun _ => rfl⟩
  have hnB : ∀ b, 0 < n b → b ≠ B := fun b hb e => (hi.tokp b hb).2 i _ hc (by simp) (e ▸ hB)
  refine ⟨⟨hi.below.trans ⟨rfl, rfl, rfl, by rw [setM_size]; exact Nat.le_refl _, fun k hk => s2 k (by omega)⟩, fun b p v hp => ?_, fun j b hj => ?_, hi.inj, fun b hb => ?_, bv, by simp [e1], fun j b ys hj hy => ?_, fun b => ?_⟩, fun b hb => ?_, hovl⟩
  · rw [cell?_of_heap (s2 b (hnp b ⟨p, v, hp⟩))]; exact hi.prot b p v hp
  · have := hi.bxd _ _ hj; rw [setM_size]; simp; omega
  · obtain ⟨t1, t2⟩ := hi.tokp b hb
    refine ⟨by rw [setM_size]; exact t1, fun j x hj hd => ?_⟩
    by_cases hji : j = i
    · subst hji; exact t2 j _ hc (by simp)
    · rw [List.getElem?_set_ne (by omega)] at hj; exact t2 j x hj hd
  · by_cases hji : j = i
    · subst hji
      rw [List.getElem?_set_self hil] at hj
      cases hj
      exact ⟨B, en', clock', hB, h2, s1, hm, h6⟩
    · rw [List.getElem?_set_ne (by omega)] at hj
      have hb := e2 j b ys hj hy
      refine hb.keep (Gh.le.refl g) (fun _ b hb => ⟨s2 b ?_, fun x => x⟩) (fun b hb' => ⟨s2 b (hnp b (hb.tk_prot hb')), fun _ => rfl⟩)
      intro e; subst e; exact hji (hi.inj _ _ _ hb hB)
  · have ht : tkBs (h.set i (.amap es')) bv b = tkBs h bv b := by
      have : ∀ (h : AH) (bv : List (List Value)) (i : Nat), h[i]? = some (.amap es) → tkBs (h.set i (.amap es')) bv b = tkBs h bv b := by
        intro h
        induction h with
        | nil => intro bv i hi; simp at hi
        | cons x xs ih =>
          intro bv i hi
          cases bv with
          | nil => cases i <;> rfl
          | cons y ys =>
            cases i with
            | zero => simp at hi; subst hi; simp [tkBs, tkB]
            | succ i => simp only [List.set_cons_succ, tkBs]; rw [ih ys i (by simpa using hi)]
      exact this h bv i hc
    rw [ht]; exact e3 b
  · exact ⟨s2 b (hnB b hb), fun _ => rfl⟩

theorem ME.set {k v : AV} {ku u : Value} (hk : VR g k ku) (hv : VR g v u) (hkc : k.cl = true) (hvc : v.cl = true) : ∀ {es : List (AV × AV)} {ms : List MapEntry} (i : Nat) {b : Nat → Nat}, ME g es ms → i < es.length → ∀ m', m'.key = ku → m'.val = u → ME g (es.set i (k, v)) (ms.set i m')
  | [], ms, i, _, hm, hi, _, _, _ => by simp at hi
  | (k', v') :: es, ms, i, b, hm, hi, m', h1, h2 => by
    simp only [ME] at hm
    obtain ⟨m, ms', rfl, q1, q2, q3, q4, q5⟩ := hm
    cases i with
    | zero => simp only [List.set_cons_zero, ME]; exact ⟨m', ms', rfl, by rw [h1]; exact hk, by rw [h2]; exact hv, hkc, hvc, q5⟩
    | succ i => simp only [List.set_cons_succ, ME]; exact ⟨m, _, rfl, q1, q2, q3, q4, ME.set hk hv hkc hvc i (b := b) q5 (by simpa using hi) m' h1 h2⟩
theorem ME.snoc {k v : AV} {m' : MapEntry} (hk : VR g k m'.key) (hv : VR g v m'.val) (hkc : k.cl = true) (hvc : v.cl = true) : ∀ {es : List (AV × AV)} {ms : List MapEntry}, ME g es ms → ME g (es ++ [(k, v)]) (ms ++ [m'])
  | [], ms, hm => by simp only [ME] at hm; subst hm; simp only [List.nil_append, ME]; exact ⟨m', [], rfl, hk, hv, hkc, hvc, rfl⟩
  | (k', v') :: es, ms, hm => by
    simp only [ME] at hm
    obtain ⟨m, ms', rfl, q1, q2, q3, q4, q5⟩ := hm
    simp only [List.cons_append, ME]
    exact ⟨m, _, rfl, q1, q2, q3, q4, ME.snoc hk hv hkc hvc q5⟩

theorem ba_eq {a b : ByteArray} (h : (a == b) = true) : a = b := by
  cases a with | mk a => cases b with | mk b =>
    have : (a == b) = true := h
    rw [eq_of_beq this]
theorem ba_refl (a : ByteArray) : (a == a) = true := by
  cases a with | mk a =>
    show (a == a) = true
    exact beq_self_eq_true a
theorem eqK_same {d : TypeDesc} {k k' : AV} {u u' : Value} (hd : keyD d k = true) (hu : VR g k u) (hu' : VR g k' u') (he : eqK k k' = some true) (m : Nat) : Instr.sameBits (m + 1) u' u = true ∧ u' = u := by
  cases k <;> cases k' <;> simp only [eqK] at he <;> try (cases he; done)
  all_goals
    simp only [VR] at hu hu'
    subst hu hu'
  · split at he <;> simp at he
    rename_i hk
    subst hk; subst he
    simp [Instr.sameBits]
  all_goals
    simp only [Option.some.injEq] at he
    first
      | (obtain rfl := ba_eq he; exact ⟨by simp only [Instr.sameBits]; exact ba_refl _, rfl⟩)
      | (obtain rfl := eq_of_beq he; exact ⟨by simp [Instr.sameBits], rfl⟩)

theorem modify_toList {α : Type} {en : Array α} {i : Nat} {f : α → α} {m : α} (h : en.toList[i]? = some m) : (en.modify i f).toList = en.toList.set i (f m) := by
  apply List.ext_getElem?
  intro j
  rw [Array.getElem?_toList, Array.getElem?_modify]
  have hlt : i < en.toList.length := (List.getElem?_eq_some_iff.1 h).1
  by_cases hij : i = j
  · subst hij
    rw [if_pos rfl, List.getElem?_set_self hlt, ← Array.getElem?_toList, h]; rfl
  · rw [if_neg hij, List.getElem?_set_ne hij, Array.getElem?_toList]

theorem mput_sound {o : Oper} {K : List AV → AH → Prop} {Q : Exit → Act → World → Prop} {t kt et : TypeId} {d : TypeDesc} {m k x : Operand} {m' k' x' : Opd} (hop : o.op = .mapUpdate t m k x) (hdst : o.dst = none)
    (ht : P.underlying t = some (.map kt et)) (hk : P.underlying kt = some d) (hm : compO m = some m') (hkk : compO k = some k') (hx : compO x = some x') (hs : SR w0 g n σ h a w) {h' : AH}
    (hr : mputV d h (evalO σ k') (evalO σ x').sh (evalO σ m') = some h') (hK : K σ h') : o.wp P a w (OpPost w0 g n w K) Q := by
  have vm := compO_VR (a := a) hs.vl hm
  have vk := compO_VR (a := a) hs.vl hkk
  have vx := VR.sh _ _ (compO_VR (a := a) hs.vl hx)
  have cx : (evalO σ x').sh.cl = true := cl_sh _
  generalize evalO σ m' = pm at *
  generalize evalO σ k' = pk at *
  generalize (evalO σ x').sh = px at *
  cases pm <;> simp only [mputV] at hr <;> try (cases hr; done)
  rename_i id
  split at hr <;> try (cases hr; done)
  rename_i hd
  simp only [Option.map_eq_some_iff] at hr
  obtain ⟨b, hb, rfl⟩ := hr
  cases e : h[id]? with
  | none => rw [e] at hb; cases hb
  | some bx =>
    rw [e] at hb
    cases bx <;> simp only [mputB] at hb <;> try (cases hb; done)
    rename_i es
    simp only [Option.map_eq_some_iff] at hb
    obtain ⟨es', he', rfl⟩ := hb
    rcases entsA_R hs.inv (m := .mp id) (u := a.eval m) (es := es) vm (by simp only [entsA, e]) with ⟨hu, _⟩ | ⟨id', B, en, cl, hid, hB, hu, h1, h2, h3, h4, h5⟩
    · simp only [VR] at vm; obtain ⟨B, _, hv⟩ := vm; rw [hu] at hv; cases hv
    cases hid
    have ck : pk.cl = true := by cases pk <;> cases d <;> simp [keyD] at hd <;> rfl
    unfold mputE at he'
    have fin : ∀ (en' : Array MapEntry) (cl' : Nat), ME g es' en'.toList → (Instr.mapUpdate t (a.eval m) (a.eval k) (a.eval x)).run P w = .ok () (setM w B en' cl') → o.wp P a w (OpPost w0 g n w K) Q := by
      intro en' cl' hme hrun
      obtain ⟨i1, i2, i3⟩ := hs.inv.storeMap (clock' := cl') h1 hB h2 h3 hme h5
      exact op_skip (g' := g) (by simp [execOp, hop, hrun]) hdst (Gh.le.refl g) (i2.le fun B => by omega) ⟨hs.vl, i3 _ _ hs.vl hs.ov, i1, hs.df⟩ hK
    split at he'
    · rename_i p hf
      simp only [Option.some.injEq] at he'; subst he'
      rcases findNow_R hd vk h4 hf with ⟨hn, _⟩ | ⟨j, v, z, hp, q2, q3, q4, q5, ee, mm, q6, q7, q8, q9⟩
      · cases hn
      · cases hp
        simp only [Nat.sub_zero] at q6 q7
        obtain ⟨hsb, hkey⟩ := eqK_same hd vk q9 q8 9999
        have hml := modify_toList (f := fun e : MapEntry => { e with key := a.eval k, val := a.eval x }) q7
        refine fin (en.modify j fun e => { e with key := a.eval k, val := a.eval x }) cl ?_ ?_
        · rw [hml]
          exact ME.set vk vx ck cx j (b := n) h4 (List.getElem?_eq_some_iff.1 q6).1 _ rfl rfl
        · have q7' : en[j]? = some mm := by rw [← Array.getElem?_toList]; exact q7
          have hkts : (Instr.keyThatStays mm.key (a.eval k)).run P w = .ok (a.eval k) w := by
            unfold Instr.keyThatStays
            rw [if_pos hsb]; rfl
          rw [hu]
          simp [Instr.mapUpdate, run_underlying ht, MapKept.run_getObj_map h3, run_checkKey_sc hk hd vk, run_findKey_sc hk q2, q7', hkts, MapKept.run_setObj_map _ h3, setM]
    · rename_i hf
      simp only [Option.some.injEq] at he'; subst he'
      rcases findNow_R hd vk h4 hf with ⟨_, q2⟩ | ⟨j, v, z, hp, _⟩
      · refine fin (en.push { key := a.eval k, val := a.eval x, born := cl }) (cl + 1) ?_ ?_
        · rw [Array.toList_push]
          exact ME.snoc vk vx ck cx h4
        · rw [hu]
          simp [Instr.mapUpdate, run_underlying ht, MapKept.run_getObj_map h3, run_checkKey_sc hk hd vk, run_findKey_sc hk q2, MapKept.run_setObj_map _ h3, setM]
      · cases hp
    · cases he'
end
end Go.Proofs.Ytlehlpbhkfmkaaa.M
