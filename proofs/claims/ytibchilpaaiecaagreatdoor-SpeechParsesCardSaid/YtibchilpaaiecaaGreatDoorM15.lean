/- What a call comes to, as a function: by rounds, and as their limit. -/
import Derived.Test.YtibchilpaaiecaaGreatDoorM14b
set_option linter.unusedVariables false
set_option linter.unusedSimpArgs false
namespace Go.Proofs.YtibchilpaaiecaaGreatDoor.M
open Go.RowKit
structure CFn where
 ntmps : Nat
 body : CC
 res : List RV
structure IsFn (P : Program) (f : FuncId) (cf : CFn) : Prop where
 ex : ∃ fn c hs hs', P.funcs[f]? = some fn ∧ fn.body = some c ∧ spine c = true ∧ cA P c hs = some (cf.body, hs') ∧ fn.ntmps = cf.ntmps ∧ fn.results.toList.mapM (lO P) = some cf.res ∧ (fn.name == "runtime.NumGoroutine") = false
def I5 (P : Program) (f : FuncId) (hs : HL) : Option CFn :=
 match P.funcs[f]? with
 | some fn => match fn.body with
  | some c => match cA P c hs, fn.results.toList.mapM (lO P) with
   | some (cc, _), some rs => if fn.name == "runtime.NumGoroutine" || !spine c then none else some ⟨fn.ntmps, cc, rs⟩
   | _, _ => none
  | none => none
 | none => none
theorem ah {P : Program} {f : FuncId} {cf : CFn} (hs : HL) (h : I5 P f hs = some cf) : IsFn P f cf := by
 unfold I5 at h
 split at h <;> try (cases h; done)
 rename_i fn h1
 split at h <;> try (cases h; done)
 rename_i c h2
 split at h <;> try (cases h; done)
 rename_i cc hs' rs h3 h4
 split at h <;> cases h
 rename_i hn
 simp only [Bool.or_eq_true, not_or, Bool.not_eq_true, Bool.not_eq_false'] at hn
 exact ⟨fn, c, hs, hs', h1, h2, hn.2, h3, rfl, h4, hn.1⟩
theorem kc {P : Program} {f : FuncId} {cf : CFn} (hf : IsFn P f cf) {args : List AV} {h : AH} {K : AV → AH → Prop}
  (hw : W P cf.body (args ++ List.replicate (cf.ntmps - args.length) aa) h (fun e σ h => e.fin ∧ ∃ vs, retV h cf.res σ = some vs ∧ K (oneOf vs) h)) (hsome : ∃ r h', K r h') : eU P f args h K := by
 obtain ⟨fn, c, hs, hs', h1, h2, hsp, h3, h4, h5, h6⟩ := hf.ex
 exact ⟨⟨fn, h1, by simp [h2], h6⟩, rU h1 h2 hsp h3 h5 (by rw [h4]; exact hw), hsome⟩
def Gh.cut (g : Gh) (k : Nat) : Gh := { g with bx := fun i => if i < k then g.bx i else none }
mutual
theorem VR.cut {g : Gh} {k : Nat} : ∀ (v : AV) (u : Value), VR g v u → v.mr ≤ k → VR (g.cut k) v u
 | .box id off, u, h, hm => by
  simp only [VR, AV.mr] at *
  obtain ⟨B, hb, rfl⟩ := h
  exact ⟨B, by simp only [Gh.cut]; rw [if_pos (by omega)]; exact hb, rfl⟩
 | .mp id, u, h, hm => by
  simp only [VR, AV.mr] at *
  obtain ⟨B, hb, rfl⟩ := h
  exact ⟨B, by simp only [Gh.cut]; rw [if_pos (by omega)]; exact hb, rfl⟩
 | .bs id off len cap, u, h, hm => by
  simp only [VR, AV.mr] at *
  obtain ⟨B, C, o, hb, h1⟩ := h
  exact ⟨B, C, o, by simp only [Gh.cut]; rw [if_pos (by omega)]; exact hb, h1⟩
 | .ref cs, u, h, hm => by
  simp only [VR, AV.mr] at *
  obtain ⟨B, o, rfl, hp⟩ := h; exact ⟨B, o, rfl, PR.cut cs B o hp hm⟩
 | .sl m es, u, h, hm => by
  simp only [VR, AV.mr] at *
  rcases h with hn | ⟨B, o, cap, h1, h2, h3, h4, h5, hp⟩
  ·exact .inl hn
  ·exact .inr ⟨B, o, cap, h1, h2, h3, h4, h5, PE.cut es B o hp hm⟩
 | .agg cs, u, h, hm => by
  simp only [VR, AV.mr] at *
  obtain ⟨vs, rfl, hv, ho⟩ := h; exact ⟨vs, rfl, VL.cut cs _ hv hm, ho⟩
 | .tup cs, u, h, hm => by
  simp only [VR, AV.mr] at *
  obtain ⟨vs, rfl, hv⟩ := h; exact ⟨vs, rfl, VL.cut cs _ hv hm⟩
 | .iface t x, u, h, hm => by
  simp only [VR, AV.mr] at *
  obtain ⟨y, rfl, hv, hc⟩ := h; exact ⟨y, rfl, VR.cut x _ hv hm, hc⟩
 | .fn f a b, u, h, hm => by
  simp only [VR, AV.mr] at *
  obtain ⟨xs, ys, rfl, h1, h2, h3⟩ := h; exact ⟨xs, ys, rfl, VL.cut a _ h1 (by omega), VL.cut b _ h2 (by omega), h3⟩
 | .int k n, u, h, hm => by simpa only [VR] using h
 | .bool b, u, h, hm => by simpa only [VR] using h
 | .str s, u, h, hm => by simpa only [VR] using h
 | .nilp, u, h, hm => by simpa only [VR] using h
 | .nili, u, h, hm => by simpa only [VR] using h
 | .nilf, u, h, hm => by simpa only [VR] using h
 | .nilm, u, h, hm => by simpa only [VR] using h
 | .any, u, h, hm => by simp only [VR]
theorem VL.cut {g : Gh} {k : Nat} : ∀ (vs : List AV) (us : List Value), VL g vs us → mrL vs ≤ k → VL (g.cut k) vs us
 | [], us, h, hm => by simpa only [VL] using h
 | c :: cs, us, h, hm => by
  simp only [VL, mrL] at *
  obtain ⟨v, vs, rfl, h1, h2⟩ := h; exact ⟨v, vs, rfl, VR.cut c v h1 (by omega), VL.cut cs vs h2 (by omega)⟩
theorem PR.cut {g : Gh} {k : Nat} : ∀ (vs : List AV) (B o : Nat), PR g vs B o → mrL vs ≤ k → PR (g.cut k) vs B o
 | [], B, o, h, hm => by simp [PR]
 | c :: cs, B, o, h, hm => by
  simp only [PR, mrL] at *
  obtain ⟨⟨u, h1, h2, h3⟩, hr⟩ := h; exact ⟨⟨u, h1, VR.cut c u h2 (by omega), h3⟩, PR.cut cs _ _ hr (by omega)⟩
theorem PE.cut {g : Gh} {k : Nat} : ∀ (es : List (List AV)) (B o : Nat), PE g es B o → mrLL es ≤ k → PE (g.cut k) es B o
 | [], B, o, h, hm => by simp [PE]
 | e :: es, B, o, h, hm => by
  simp only [PE, mrLL] at *
  exact ⟨PR.cut e B o h.1 (by omega), PE.cut es B _ h.2 (by omega)⟩
end
theorem FW {g : Gh} {k : Nat} (hg : ∀ i B, g.bx i = some B → i < k) : ∀ {vs : List AV} {us : List Value}, VL g vs us → mrL vs ≤ k := by
 have hV : ∀ (v : AV) (u : Value), VR g v u → v.mr ≤ k := by
  intro v
  refine AV.rec (motive_1 := fun v => ∀ u, VR g v u → v.mr ≤ k) (motive_2 := fun cs => (∀ us, VL g cs us → mrL cs ≤ k) ∧ ∀ B o, PR g cs B o → mrL cs ≤ k) (motive_3 := fun es => ∀ B o, PE g es B o → mrLL es ≤ k)
   ?_ ?_ ?_ ?_ ?_ ?_ ?_ ?_ ?_ ?_ ?_ ?_ ?_ ?_ ?_ ?_ ?_ ?_ ?_ ?_ ?_ v
  case refine_1 => intro k n u _; simp [AV.mr]
  case refine_2 => intro b u _; simp [AV.mr]
  case refine_3 => intro s u _; simp [AV.mr]
  case refine_4 => intro u _; simp [AV.mr]
  case refine_5 => intro id off u h; simp only [VR] at h; obtain ⟨B, hb, _⟩ := h; simp only [AV.mr]; exact hg _ _ hb
  case refine_6 => intro cs ih u h; simp only [VR] at h; obtain ⟨B, o, _, hp⟩ := h; exact ih.2 B o hp
  case refine_7 =>
   intro m es ih u h
   simp only [VR] at h
   rcases h with ⟨rfl, _⟩ | ⟨B, o, cap, _, _, _, _, _, hp⟩
   ·simp [AV.mr, mrLL]
   ·exact ih B o hp
  case refine_8 => intro cs ih u h; simp only [VR] at h; obtain ⟨vs, _, hv, _⟩ := h; exact ih.1 _ hv
  case refine_9 => intro cs ih u h; simp only [VR] at h; obtain ⟨vs, _, hv⟩ := h; exact ih.1 _ hv
  case refine_10 => intro u _; simp [AV.mr]
  case refine_11 => intro t x ih u h; simp only [VR] at h; obtain ⟨y, _, hv, _⟩ := h; exact ih _ hv
  case refine_12 => intro u _; simp [AV.mr]
  case refine_13 =>
   intro f a b iha ihb u h
   simp only [VR] at h
   obtain ⟨xs, ys, _, h1, h2, _⟩ := h
   have := iha.1 _ h1; have := ihb.1 _ h2
   simp only [AV.mr]; omega
  case refine_14 => intro u _; simp [AV.mr]
  case refine_15 => intro id u h; simp only [VR] at h; obtain ⟨B, hb, _⟩ := h; simp only [AV.mr]; exact hg _ _ hb
  case refine_16 => intro u _; simp [AV.mr]
  case refine_17 => intro id off len cap u h; simp only [VR] at h; obtain ⟨B, C, o, hb, _⟩ := h; simp only [AV.mr]; exact hg _ _ hb
  case refine_18 => exact ⟨fun _ _ => by simp [mrL], fun _ _ _ => by simp [mrL]⟩
  case refine_19 =>
   intro c cs hc hcs
   refine ⟨fun us h => ?_, fun B o h => ?_⟩
   ·simp only [VL] at h; obtain ⟨v, vs, _, h1, h2⟩ := h
    have := hc _ h1; have := hcs.1 _ h2
    simp only [mrL]; omega
   ·simp only [PR] at h; obtain ⟨⟨u, _, h1, _⟩, h2⟩ := h
    have := hc _ h1; have := hcs.2 _ _ h2
    simp only [mrL]; omega
  case refine_20 => intro B o _; simp [mrLL]
  case refine_21 =>
   intro e es he hes B o h
   simp only [PE] at h
   have := he.2 _ _ h.1; have := hes _ _ h.2
   simp only [mrLL]; omega
 intro vs
 induction vs with
 | nil => intro us _; simp [mrL]
 | cons c cs ih =>
  intro us h
  simp only [VL] at h; obtain ⟨v, vs, _, h1, h2⟩ := h
  have := hV _ _ h1; have := ih h2
  simp only [mrL]; omega
theorem I6 {g : Gh} {k : Nat} (hg : ∀ i B, g.bx i = some B → i < k) : ∀ {es : List (AV × AV)} {ms : List MapEntry}, ME g es ms → mrM es ≤ k
 | [], ms, _ => by simp [mrM]
 | (a, b) :: r, ms, h => by
  simp only [ME] at h
  obtain ⟨e, es', _, h1, h2, _, _, hr⟩ := h
  have m1 := FW hg (vs := [a]) (us := [e.key]) ⟨_, _, rfl, h1, rfl⟩
  have m2 := FW hg (vs := [b]) (us := [e.val]) ⟨_, _, rfl, h2, rfl⟩
  have := I6 hg hr
  simp only [mrL, mrM] at *; omega
theorem EZ {g : Gh} {k : Nat} : ∀ {es : List (AV × AV)} {ms : List MapEntry}, ME g es ms → mrM es ≤ k → ME (g.cut k) es ms
 | [], ms, h, _ => by simpa only [ME] using h
 | (a, b) :: r, ms, h, hm => by
  simp only [ME, mrM] at *
  obtain ⟨e, es', h0, h1, h2, h3, h4, hr⟩ := h
  exact ⟨e, es', h0, VR.cut _ _ h1 (by omega), VR.cut _ _ h2 (by omega), h3, h4, EZ hr (by omega)⟩
def gcOK (h h' : AH) : Prop := ∀ i, i < h.length → h'[i]? = h[i]? ∨ ∃ b, h'[i]? = some b ∧ mrB b ≤ h.length
theorem tU : ∀ (h : AH) (bv : List (List Value)) (k B : Nat), tkBs (h.take k) (bv.take k) B ≤ tkBs h bv B
 | [], bv, k, B => by simp [tkBs]
 | b :: bs, [], k, B => by cases k <;> simp [tkBs]
 | b :: bs, vs :: vss, 0, B => by simp [tkBs]
 | b :: bs, vs :: vss, k + 1, B => by
  simp only [List.take_succ_cons, tkBs]
  have := tU bs vss k B
  omega
theorem CU {P : Program} {f : FuncId} {args : List AV} {h : AH} {K : AV → AH → Prop}
  (hc : eU P f args h (fun r h' => r.mr ≤ h.length ∧ h.length ≤ h'.length ∧ gcOK h h' ∧ K r (h'.take h.length))) : eU P f args h K := by
 obtain ⟨h1, h2, r, h', _, _, _, h3⟩ := hc
 refine ⟨h1, ?_, _, _, h3⟩
 clear h3
 intro w0 g n w vs ha hcl hi
 refine (h2 w0 g n w vs ha hcl hi).mono ?_
 rintro e w' ⟨g', r, u, h', rfl, ⟨hm, hlen, hgc, hK⟩, hle, hkp, hvr, hov, hinv⟩
 have hold : ∀ (i : Nat) (b : Bx), h[i]? = some b → mrB b ≤ h.length := by
  intro i b hb
  obtain ⟨bv, e1, e2, e3⟩ := hi.rest
  have hil : i < h.length := (List.getElem?_eq_some_iff.1 hb).1
  have hbx := e2 i b bv[i] hb (by simp [e1, hil])
  have hg : ∀ i B, g.bx i = some B → i < h.length := fun i B hB => (hi.bxd i B hB).1
  cases b with
  | cells cs => obtain ⟨B, el, ex, _, _, _, h4, _⟩ := hbx; exact FW hg h4
  | amap es => obtain ⟨B, en, cl, _, _, _, h4, _⟩ := hbx; exact I6 hg h4
  | dead => simp [mrB]
 have hmr : ∀ (i : Nat) (b : Bx), i < h.length → h'[i]? = some b → mrB b ≤ h.length := by
  intro i b hil hb
  rcases hgc i hil with he | ⟨b', hb', hm'⟩
  ·rw [he] at hb; exact hold i b hb
  ·rw [hb] at hb'; cases hb'; exact hm'
 have hcut : ∀ {v : AV} {u : Value}, OV w0 g' w' v u → OV w0 (g'.cut h.length) w' v u := fun ho => OV.keep ho fun B _ => ⟨rfl, fun _ => rfl⟩
 refine ⟨g'.cut h.length, r, u, h'.take h.length, rfl, hK, ⟨hle.prot, fun i B hB => ?_⟩, fun B hB => ⟨(hkp B hB).1, (hkp B hB).2⟩, VR.cut _ _ hvr hm, hcut hov, ?_⟩
 ·simp only [Gh.cut]; rw [if_pos (hi.bxd i B hB).1]; exact hle.bx i B hB
 ·obtain ⟨bv, e1, e2, e3⟩ := hinv.rest
  refine ⟨hinv.gw, hinv.gl, hinv.below, hinv.prot, fun i B hB => ?_, fun i j B hi' hj => ?_, fun B hB => ?_, bv.take h.length, by simp [e1], fun i b ys hb hy => ?_, fun B => ?_⟩
  ·simp only [Gh.cut] at hB
   split at hB <;> try (cases hB; done)
   rename_i hil
   exact ⟨by rw [List.length_take]; omega, (hinv.bxd i B hB).2⟩
  ·simp only [Gh.cut] at hi' hj
   split at hi' <;> try (cases hi'; done)
   split at hj <;> try (cases hj; done)
   exact hinv.inj i j B hi' hj
  ·obtain ⟨t1, t2⟩ := hinv.tokp B hB
   refine ⟨t1, fun i b hb hd hB' => ?_⟩
   simp only [Gh.cut] at hB'
   split at hB' <;> try (cases hB'; done)
   rw [List.getElem?_take] at hb
   split at hb
   ·exact t2 i b hb hd hB'
   ·first | (cases hb; done) | omega
  ·rw [List.getElem?_take] at hb hy
   split at hb <;> try (cases hb; done)
   rename_i hil
   rw [if_pos hil] at hy
   have hbx := e2 i b ys hb hy
   have hm' := hmr i b hil hb
   cases b with
   | cells cs =>
    obtain ⟨B, el, ex, q1, q2, q3, q4, q5, q6, q7⟩ := hbx
    exact ⟨B, el, ex, by simp only [Gh.cut]; rw [if_pos hil]; exact q1, q2, q3, VL.cut _ _ q4 hm', q5, OVL.keep q6 fun B _ => ⟨rfl, fun _ => rfl⟩, q7⟩
   | amap es =>
    obtain ⟨B, en, cl, q1, q2, q3, q4, q5⟩ := hbx
    exact ⟨B, en, cl, by simp only [Gh.cut]; rw [if_pos hil]; exact q1, q2, q3, EZ q4 hm', q5⟩
   | dead => trivial
  ·exact Nat.le_trans (Nat.add_le_add_left (tU _ _ _ _) _) (e3 B)
inductive Def where
 | code (cf : CFn)
 | split
 | prim (p : List AV → AH → Option (AV × AH))
abbrev Tbl := FuncId → Option Def
def cW (P : Program) (f : FuncId) : Def → Prop
 | .code cf => IsFn P f cf
 | .split => rR P f
 | .prim p => ∀ args h r h', p args h = some (r, h') → ∀ K : AV → AH → Prop, K r h' → eU P f args h K
abbrev St := Ex × List AV × AH
abbrev Rec := CC → List AV → AH → Option St
open Classical in
noncomputable def gc (h : AH) (r : AV) (h' : AH) : Option (AV × AH) :=
 if h'.length ≤ h.length ∨ h.length < r.mr then some (r, h') else if gcOK h h' then some (r, h'.take h.length) else none
noncomputable def finF (rs : List RV) (h0 : AH) : St → Option (AV × AH)
 | (.exit _, _, _) => none
 | (_, σ, h) => (retV h rs σ).bind fun vs => gc h0 (oneOf vs) h
noncomputable def ji (T : Tbl) (rec : Rec) (f : FuncId) (args : List AV) (h : AH) : Option (AV × AH) :=
 match T f with
 | some (.code cf) => (rec cf.body (args ++ List.replicate (cf.ntmps - args.length) aa) h).bind (finF cf.res h)
 | some (.prim p) => p args h
 | _ => none
def finP (σ : List AV) (d : Option Nat) (h : AH) : AV × AH → Option (List AV × AH)
 | (r, []) => some (putA σ d r, h)
 | _ => none
noncomputable def xeff (T : Tbl) (rec : Rec) (op : COp) (d : Option Nat) (σ : List AV) (h : AH) : Option (List AV × AH) :=
 match bZ op (ag σ) with
 | some (f, args, false) => (ji T rec f args h).map fun r => (putA σ d r.1, r.2)
 | some (f, args, true) => if mrL args = 0 then (ji T rec f args []).bind (finP σ d h) else none
 | none => (xop op d (ag σ) h).map fun r => (putL σ r.1, r.2)
noncomputable def xops (T : Tbl) (rec : Rec) : List CO → List AV → AH → Option (List AV × AH)
 | [], σ, h => some (σ, h)
 | o :: r, σ, h => (xeff T rec (aW o σ) o.dst σ h).bind fun s => xops T rec r s.1 s.2
def addS (p : CO × Bool) (σ : List AV) (S : List Nat) : List Nat :=
 if p.2 && isL p.1.op then (match gV σ p.1.guard, ag σ (eZ p.1.op) with | some true, .box id _ => id :: S | some true, .mp id => id :: S | _, _ => S) else S
def addE (p : CO × Bool) (h h' : AH) (E : List (AH × AH)) : List (AH × AH) := if p.2 && !isL p.1.op then (h, h') :: E else E
open Classical in
noncomputable def nA (T : Tbl) (rec : Rec) : List Nat → List (AH × AH) → List (CO × Bool) → List AV → AH → Option (List AV × AH)
 | S, E, [], σ, h => if ∀ e ∈ E, rP S e.1 e.2 then some (σ, h) else none
 | S, E, p :: r, σ, h => (xeff T rec (aW p.1 σ) p.1.dst σ h).bind fun s => nA T rec (addS p σ S) (addE p h s.2 E) r s.1 s.2
def outB (id : Nat) (r : St) : St := match r.1 with | .exit j => if j = id then (.normal, r.2) else r | _ => r
def rsV (ra rb : List AV → AH → Option St) (p ps pp pv : Nat) (c : UInt8) (σ : List AV) : List (List UInt8 × List UInt8) → AH → Option (Ex × AH)
 | [], h => some (.normal, h)
 | (x, r) :: xs, h => (ra ((shL σ).set p (.str ⟨x.toArray⟩)) h).bind fun s1 => match s1.1 with
  | .normal => (rb s1.2.1 s1.2.2).bind fun s2 => match s2.1 with
   | .normal => if dF r s2.2.2[ps]? && dF [c] s2.2.2[pp]? && fa s2.2.2[pv]? then
     (match xs with | [] => some (.normal, s2.2.2) | (_, r') :: _ => rsV ra rb p ps pp pv c σ xs (s2.2.2.set ps (.cells [.str ⟨r'.toArray⟩]))) else none
   | e => some (e, s2.2.2)
  | _ => none
def spl (h : AH) (pp ps pv : Nat) : Option (UInt8 × List UInt8) :=
 match h[pp]?, h[ps]? with
 | some (.cells [.str d]), some (.cells [.str s]) => match d.data.toList with
  | [c] => if fa h[pv]? && ps != pp && ps != pv && Nat.ble s.size 4611686018427387904 then some (c, s.data.toList) else none
  | _ => none
 | _, _ => none
def rV (T : Tbl) (k : FuncId) : Bool := match T k with | some .split => true | _ => false
def rsS (T : Tbl) (ra rb : List AV → AH → Option St) (p : Nat) (σ : List AV) (h : AH) : AV → Option St
 | .fn (.func k) [] [.box pp 0, .box ps 0, .box pv 0] => if rV T k then match spl h pp ps pv with
   | some (c, s) => (rsV ra rb p ps pp pv c σ (au c s) h).map fun r => (r.1, σ, r.2)
   | none => none
  else none
 | _ => none
open Classical in
noncomputable def agree {α : Type} (x y : Option α) : Option α := if x = y then x else none
theorem nC {α : Type} {x y : Option α} {v : α} : agree x y = some v ↔ x = some v ∧ y = some v := by
 unfold agree
 constructor
 ·intro h; split at h
  ·rename_i e; subst e; exact ⟨h, h⟩
  ·cases h
 ·rintro ⟨rfl, rfl⟩; simp
noncomputable def step (T : Tbl) (rec : Rec) : Rec
 | .both a b, σ, h => agree (rec a σ h) (rec b σ h)
 | .skip, σ, h => some (.normal, σ, h)
 | .region ops, σ, h => (xops T rec ops σ h).map fun s => (.normal, s)
 | .dregion ops, σ, h => (nA T rec [] [] ops σ h).map fun s => (.normal, s)
 | .seq a b, σ, h => (rec a σ h).bind fun r => match r.1 with | .normal => rec b r.2.1 r.2.2 | _ => some r
 | .cond c x y, σ, h => match ag σ c with | .bool true => rec x σ h | .bool false => rec y σ h | _ => none
 | .block id c, σ, h => (rec c σ h).map (outB id)
 | .loop c, σ, h => (rec c σ h).bind fun r => match r.1 with | .normal => rec (.loop c) r.2.1 r.2.2 | _ => some r
 | .exit id, σ, h => some (.exit id, σ, h)
 | .ret, σ, h => some (.ret, σ, h)
 | .kill ws c, σ, h => rec c (dD ws σ) h
 | .rsplit g p asg body, σ, h => rsS T (rec asg) (rec body) p σ h (ag σ g)
noncomputable def ev (T : Tbl) : Nat → Rec
 | 0 => fun _ _ _ => none
 | n + 1 => step T (ev T n)
open Classical in
noncomputable def den (T : Tbl) : Rec := fun c σ h => if H : ∃ n r, ev T n c σ h = some r then some (Classical.choose (Classical.choose_spec H)) else none
def Cont (T : Tbl) {α : Type} (G : Rec → Option α) : Prop :=
 (∀ a b : Rec, (∀ c σ h r, a c σ h = some r → b c σ h = some r) → ∀ x, G a = some x → G b = some x) ∧ ∀ x, G (den T) = some x → ∃ n, G (ev T n) = some x
section
variable {T : Tbl} {α β : Type}
theorem Cont.const (o : Option α) : Cont T (fun _ => o) := ⟨fun _ _ _ _ h => h, fun x h => ⟨0, h⟩⟩
end
def Mono {α : Type} (G : Rec → Option α) : Prop := ∀ a b : Rec, (∀ c σ h r, a c σ h = some r → b c σ h = some r) → ∀ x, G a = some x → G b = some x
section
variable {T : Tbl} {α β : Type}
theorem Mono.const (o : Option α) : Mono (fun _ => o) := fun _ _ _ _ h => h
theorem Mono.rec (c : CC) (σ : List AV) (h : AH) : Mono (fun rec => rec c σ h) := fun a b hab x hx => hab c σ h x hx
theorem Mono.bind {G : Rec → Option α} {H : α → Rec → Option β} (hG : Mono G) (hH : ∀ a, Mono (H a)) : Mono (fun rec => (G rec).bind fun a => H a rec) := by
 intro a b hab x hx
 simp only [Option.bind_eq_some_iff] at hx ⊢
 obtain ⟨y, h1, h2⟩ := hx
 exact ⟨y, hG a b hab y h1, hH y a b hab x h2⟩
theorem Mono.map {G : Rec → Option α} (f : α → β) (hG : Mono G) : Mono (fun rec => (G rec).map f) := by
 intro a b hab x hx
 simp only [Option.map_eq_some_iff] at hx ⊢
 obtain ⟨y, h1, h2⟩ := hx
 exact ⟨y, hG a b hab y h1, h2⟩
theorem Mono.agree {G H : Rec → Option α} (hG : Mono G) (hH : Mono H) : Mono (fun rec => agree (G rec) (H rec)) := by
 intro a b hab x hx
 simp only [nC] at hx ⊢
 exact ⟨hG a b hab x hx.1, hH a b hab x hx.2⟩
theorem mL (f : FuncId) (args : List AV) (h : AH) : Mono (fun rec => ji T rec f args h) := by
 unfold ji
 cases T f with
 | none => exact Mono.const _
 | some d =>
  cases d with
  | code cf => exact Mono.bind (Mono.rec _ _ _) fun r => Mono.const (finF cf.res h r)
  | prim p => exact Mono.const _
  | split => exact Mono.const _
theorem ot (op : COp) (d : Option Nat) (σ : List AV) (h : AH) : Mono (fun rec => xeff T rec op d σ h) := by
 unfold xeff
 cases bZ op (ag σ) with
 | none => exact Mono.const _
 | some p =>
  obtain ⟨f, args, pu⟩ := p
  cases pu
  ·exact Mono.map _ (mL _ _ _)
  ·simp only
   split
   ·exact Mono.bind (mL _ _ _) fun r => Mono.const (finP σ d h r)
   ·exact Mono.const _
theorem rW : ∀ (l : List CO) (σ : List AV) (h : AH), Mono (fun rec => xops T rec l σ h)
 | [], σ, h => Mono.const _
 | o :: l, σ, h => Mono.bind (ot _ _ _ _) fun s => rW l s.1 s.2
theorem pd : ∀ (l : List (CO × Bool)) (S : List Nat) (E : List (AH × AH)) (σ : List AV) (h : AH), Mono (fun rec => nA T rec S E l σ h)
 | [], S, E, σ, h => Mono.const _
 | p :: l, S, E, σ, h => Mono.bind (ot _ _ _ _) fun s => pd l _ _ s.1 s.2
theorem wR (asg body : CC) (p ps pp pv : Nat) (c : UInt8) (σ : List AV) : ∀ (xs : List (List UInt8 × List UInt8)) (h : AH), Mono (fun rec => rsV (rec asg) (rec body) p ps pp pv c σ xs h) := by
 intro xs
 induction xs with
 | nil => intro h; exact Mono.const _
 | cons x xs ih =>
  intro h
  obtain ⟨x, r⟩ := x
  simp only [rsV]
  refine Mono.bind (Mono.rec _ _ _) fun s1 => ?_
  obtain ⟨e, σ1, h1⟩ := s1
  cases e <;> first | exact Mono.const _ | skip
  refine Mono.bind (Mono.rec _ _ _) fun s2 => ?_
  obtain ⟨e2, σ2, h2⟩ := s2
  cases e2 <;> first | exact Mono.const _ | skip
  by_cases hb : (dF r h2[ps]? && dF [c] h2[pp]? && fa h2[pv]?) = true
  ·simp only [hb, if_true]
   cases xs with
   | nil => exact Mono.const _
   | cons y ys => exact ih _
  ·simp only [hb]; exact Mono.const _
theorem wS (asg body : CC) (p : Nat) (σ : List AV) (h : AH) (v : AV) : Mono (fun rec => rsS T (rec asg) (rec body) p σ h v) := by
 unfold rsS
 split
 ·split
  ·split
   ·exact Mono.map _ (wR _ _ _ _ _ _ _ _ _ _)
   ·exact Mono.const _
  ·exact Mono.const _
 ·exact Mono.const _
theorem pf (c : CC) (σ : List AV) (h : AH) : Mono (fun rec => step T rec c σ h) := by
 cases c with
 | skip => exact Mono.const _
 | region ops => exact Mono.map _ (rW _ _ _)
 | dregion ops => exact Mono.map _ (pd _ _ _ _ _)
 | seq a b =>
  refine Mono.bind (Mono.rec _ _ _) fun r => ?_
  obtain ⟨e, σ', h'⟩ := r
  cases e <;> first | exact Mono.rec _ _ _ | exact Mono.const _
 | cond c x y =>
  simp only [step]
  cases ag σ c <;> try (exact Mono.const _)
  rename_i b
  cases b <;> exact Mono.rec _ _ _
 | block id c => exact Mono.map _ (Mono.rec _ _ _)
 | loop c =>
  refine Mono.bind (Mono.rec _ _ _) fun r => ?_
  obtain ⟨e, σ', h'⟩ := r
  cases e <;> first | exact Mono.rec _ _ _ | exact Mono.const _
 | exit id => exact Mono.const _
 | ret => exact Mono.const _
 | kill ws c => exact Mono.rec _ _ _
 | rsplit g p asg body => exact wS _ _ _ _ _ _
 | both a b => exact Mono.agree (Mono.rec _ _ _) (Mono.rec _ _ _)
theorem FX : ∀ n c σ h r, ev T n c σ h = some r → ev T (n + 1) c σ h = some r := by
 intro n
 induction n with
 | zero => intro c σ h r hr; cases hr
 | succ n ih => intro c σ h r hr; exact pf c σ h (ev T n) (ev T (n + 1)) ih r hr
theorem lY {n m : Nat} (hnm : n ≤ m) : ∀ c σ h r, ev T n c σ h = some r → ev T m c σ h = some r := by
 induction hnm with
 | refl => intro c σ h r hr; exact hr
 | step _ ih => intro c σ h r hr; exact FX _ c σ h r (ih c σ h r hr)
theorem tV {n : Nat} {c : CC} {σ : List AV} {h : AH} {r : St} (hr : ev T n c σ h = some r) : den T c σ h = some r := by
 have H : ∃ n r, ev T n c σ h = some r := ⟨n, r, hr⟩
 unfold den
 rw [dif_pos H]
 have h2 := Classical.choose_spec (Classical.choose_spec H)
 have h3 := lY (Nat.le_max_left n (Classical.choose H)) c σ h r hr
 have h4 := lY (Nat.le_max_right n (Classical.choose H)) c σ h _ h2
 rw [h3] at h4; exact h4.symm
theorem wT {c : CC} {σ : List AV} {h : AH} {r : St} (hr : den T c σ h = some r) : ∃ n, ev T n c σ h = some r := by
 unfold den at hr
 split at hr <;> cases hr
 rename_i H
 exact ⟨_, Classical.choose_spec (Classical.choose_spec H)⟩
def Fin (T : Tbl) {α : Type} (G : Rec → Option α) : Prop := ∀ x, G (den T) = some x → ∃ n, G (ev T n) = some x
theorem Fin.const (o : Option α) : Fin T (fun _ => o) := fun x h => ⟨0, h⟩
theorem Fin.rec (c : CC) (σ : List AV) (h : AH) : Fin T (fun rec => rec c σ h) := fun x hx => wT hx
theorem Fin.bind {G : Rec → Option α} {H : α → Rec → Option β} (hG : Fin T G) (mG : Mono G) (hH : ∀ a, Fin T (H a)) (mH : ∀ a, Mono (H a)) : Fin T (fun rec => (G rec).bind fun a => H a rec) := by
 intro x hx
 simp only [Option.bind_eq_some_iff] at hx ⊢
 obtain ⟨y, h1, h2⟩ := hx
 obtain ⟨n, hn⟩ := hG y h1
 obtain ⟨m, hm⟩ := hH y x h2
 exact ⟨max n m, y, mG _ _ (lY (Nat.le_max_left n m)) y hn, mH y _ _ (lY (Nat.le_max_right n m)) x hm⟩
theorem Fin.map {G : Rec → Option α} (f : α → β) (hG : Fin T G) : Fin T (fun rec => (G rec).map f) := by
 intro x hx
 simp only [Option.map_eq_some_iff] at hx ⊢
 obtain ⟨y, h1, h2⟩ := hx
 obtain ⟨n, hn⟩ := hG y h1
 exact ⟨n, y, hn, h2⟩
theorem Fin.agree {G H : Rec → Option α} (hG : Fin T G) (mG : Mono G) (hH : Fin T H) (mH : Mono H) : Fin T (fun rec => agree (G rec) (H rec)) := by
 intro x hx
 simp only [nC] at hx ⊢
 obtain ⟨n, hn⟩ := hG x hx.1
 obtain ⟨m, hm⟩ := hH x hx.2
 exact ⟨max n m, mG _ _ (lY (Nat.le_max_left n m)) x hn, mH _ _ (lY (Nat.le_max_right n m)) x hm⟩
theorem rX (f : FuncId) (args : List AV) (h : AH) : Fin T (fun rec => ji T rec f args h) := by
 unfold ji
 cases T f with
 | none => exact Fin.const _
 | some d =>
  cases d with
  | code cf => exact Fin.bind (Fin.rec _ _ _) (Mono.rec _ _ _) (fun r => Fin.const (finF cf.res h r)) fun r => Mono.const _
  | prim p => exact Fin.const _
  | split => exact Fin.const _
theorem zR (op : COp) (d : Option Nat) (σ : List AV) (h : AH) : Fin T (fun rec => xeff T rec op d σ h) := by
 unfold xeff
 cases bZ op (ag σ) with
 | none => exact Fin.const _
 | some p =>
  obtain ⟨f, args, pu⟩ := p
  cases pu
  ·exact Fin.map _ (rX _ _ _)
  ·simp only
   split
   ·exact Fin.bind (rX _ _ _) (mL _ _ _) (fun r => Fin.const (finP σ d h r)) fun r => Mono.const _
   ·exact Fin.const _
theorem rY : ∀ (l : List CO) (σ : List AV) (h : AH), Fin T (fun rec => xops T rec l σ h)
 | [], σ, h => Fin.const _
 | o :: l, σ, h => Fin.bind (zR _ _ _ _) (ot _ _ _ _) (fun s => rY l s.1 s.2) fun s => rW _ _ _
theorem wU : ∀ (l : List (CO × Bool)) (S : List Nat) (E : List (AH × AH)) (σ : List AV) (h : AH), Fin T (fun rec => nA T rec S E l σ h)
 | [], S, E, σ, h => Fin.const _
 | p :: l, S, E, σ, h => Fin.bind (zR _ _ _ _) (ot _ _ _ _) (fun s => wU l _ _ s.1 s.2) fun s => pd _ _ _ _ _
theorem FY (asg body : CC) (p ps pp pv : Nat) (c : UInt8) (σ : List AV) : ∀ (xs : List (List UInt8 × List UInt8)) (h : AH), Fin T (fun rec => rsV (rec asg) (rec body) p ps pp pv c σ xs h) := by
 intro xs
 induction xs with
 | nil => intro h; exact Fin.const _
 | cons x xs ih =>
  intro h
  obtain ⟨x, r⟩ := x
  simp only [rsV]
  have mono2 : ∀ (s2 : St), Mono (fun rec : Rec => match s2.1 with
   | .normal => if dF r s2.2.2[ps]? && dF [c] s2.2.2[pp]? && fa s2.2.2[pv]? then
     (match xs with | [] => some (.normal, s2.2.2) | (_, r') :: _ => rsV (rec asg) (rec body) p ps pp pv c σ xs (s2.2.2.set ps (.cells [.str ⟨r'.toArray⟩]))) else none
   | e => some (e, s2.2.2)) := by
   intro s2
   obtain ⟨e2, σ2, h2⟩ := s2
   cases e2 <;> first | exact Mono.const _ | skip
   by_cases hb : (dF r h2[ps]? && dF [c] h2[pp]? && fa h2[pv]?) = true
   ·simp only [hb, if_true]
    cases xs with
    | nil => exact Mono.const _
    | cons y ys => exact wR _ _ _ _ _ _ _ _ _ _
   ·simp only [hb]; exact Mono.const _
  refine Fin.bind (Fin.rec _ _ _) (Mono.rec _ _ _) (fun s1 => ?_) fun s1 => ?_
  ·obtain ⟨e, σ1, h1⟩ := s1
   cases e <;> first | exact Fin.const _ | skip
   refine Fin.bind (Fin.rec _ _ _) (Mono.rec _ _ _) (fun s2 => ?_) mono2
   obtain ⟨e2, σ2, h2⟩ := s2
   cases e2 <;> first | exact Fin.const _ | skip
   by_cases hb : (dF r h2[ps]? && dF [c] h2[pp]? && fa h2[pv]?) = true
   ·simp only [hb, if_true]
    cases xs with
    | nil => exact Fin.const _
    | cons y ys => exact ih _
   ·simp only [hb]; exact Fin.const _
  ·obtain ⟨e, σ1, h1⟩ := s1
   cases e <;> first | exact Mono.const _ | skip
   exact Mono.bind (Mono.rec _ _ _) mono2
theorem FZ (asg body : CC) (p : Nat) (σ : List AV) (h : AH) (v : AV) : Fin T (fun rec => rsS T (rec asg) (rec body) p σ h v) := by
 unfold rsS
 split
 ·split
  ·split
   ·exact Fin.map _ (FY _ _ _ _ _ _ _ _ _ _)
   ·exact Fin.const _
  ·exact Fin.const _
 ·exact Fin.const _
theorem CV (c : CC) (σ : List AV) (h : AH) : Fin T (fun rec => step T rec c σ h) := by
 cases c with
 | skip => exact Fin.const _
 | region ops => exact Fin.map _ (rY _ _ _)
 | dregion ops => exact Fin.map _ (wU _ _ _ _ _)
 | seq a b =>
  refine Fin.bind (Fin.rec _ _ _) (Mono.rec _ _ _) (fun r => ?_) fun r => ?_
  ·obtain ⟨e, σ', h'⟩ := r
   cases e <;> first | exact Fin.rec _ _ _ | exact Fin.const _
  ·obtain ⟨e, σ', h'⟩ := r
   cases e <;> first | exact Mono.rec _ _ _ | exact Mono.const _
 | cond c x y =>
  simp only [step]
  cases ag σ c <;> try (exact Fin.const _)
  rename_i b
  cases b <;> exact Fin.rec _ _ _
 | block id c => exact Fin.map _ (Fin.rec _ _ _)
 | loop c =>
  refine Fin.bind (Fin.rec _ _ _) (Mono.rec _ _ _) (fun r => ?_) fun r => ?_
  ·obtain ⟨e, σ', h'⟩ := r
   cases e <;> first | exact Fin.rec _ _ _ | exact Fin.const _
  ·obtain ⟨e, σ', h'⟩ := r
   cases e <;> first | exact Mono.rec _ _ _ | exact Mono.const _
 | exit id => exact Fin.const _
 | ret => exact Fin.const _
 | kill ws c => exact Fin.rec _ _ _
 | rsplit g p asg body => exact FZ _ _ _ _ _ _
 | both a b => exact Fin.agree (Fin.rec _ _ _) (Mono.rec _ _ _) (Fin.rec _ _ _) (Mono.rec _ _ _)
theorem lP (c : CC) (σ : List AV) (h : AH) : den T c σ h = step T (den T) c σ h := by
 cases e : step T (den T) c σ h with
 | some r =>
  obtain ⟨n, hn⟩ := CV c σ h r e
  exact tV (n := n + 1) hn
 | none =>
  cases e2 : den T c σ h with
  | none => rfl
  | some r =>
   obtain ⟨n, hn⟩ := wT e2
   cases n with
   | zero => cases hn
   | succ n =>
    have : step T (den T) c σ h = some r := pf c σ h (ev T n) (den T) (fun c σ h r hr => tV hr) r hn
    rw [e] at this; cases this
end
section
variable {P : Program} {T : Tbl}
theorem CW {h h' : AH} {r : AV} {x : AV × AH} (hg : gc h r h' = some x) : x = (r, h') ∨ (r.mr ≤ h.length ∧ h.length ≤ h'.length ∧ gcOK h h' ∧ x = (r, h'.take h.length)) := by
 unfold gc at hg
 split at hg
 ·cases hg; exact .inl rfl
 ·rename_i hc
  split at hg <;> cases hg
  rename_i hk
  exact .inr ⟨by omega, by omega, hk, rfl⟩
def tW (P : Program) (rec : Rec) : Prop := ∀ c σ h e σ' h' (Q : Ex → List AV → AH → Prop), rec c σ h = some (e, σ', h') → Q e σ' h' → W P c σ h Q
theorem F0 {e : Ex} (h : ∀ i, e ≠ .exit i) : e.fin := by
 cases e with
 | exit i => exact absurd rfl (h i)
 | normal => trivial
 | ret => trivial
theorem lZ (hT : ∀ f d, T f = some d → cW P f d) {rec : Rec} (hr : tW P rec) {f : FuncId} {args : List AV} {h h' : AH} {r : AV} (hc : ji T rec f args h = some (r, h')) {K : AV → AH → Prop} (hK : K r h') : eU P f args h K := by
 unfold ji at hc
 split at hc
 ·rename_i cf hf
  have hok := hT _ _ hf
  simp only [Option.bind_eq_some_iff] at hc
  obtain ⟨⟨e, σ', h1⟩, hb, hc⟩ := hc
  have hfin : (∀ i, e ≠ .exit i) ∧ ∃ vs, retV h1 cf.res σ' = some vs ∧ gc h (oneOf vs) h1 = some (r, h') := by
   cases e with
   | exit i => simp [finF] at hc
   | normal => simp only [finF, Option.bind_eq_some_iff] at hc; exact ⟨by simp, hc⟩
   | ret => simp only [finF, Option.bind_eq_some_iff] at hc; exact ⟨by simp, hc⟩
  obtain ⟨hne, vs, hv, hg⟩ := hfin
  have he := F0 hne
  rcases CW hg with hx | ⟨g1, g2, g3, hx⟩
  ·cases hx
   exact kc hok (hr _ _ _ _ _ _ _ hb ⟨he, vs, hv, hK⟩) ⟨_, _, hK⟩
  ·cases hx
   exact CU (kc hok (hr _ _ _ _ _ _ _ hb ⟨he, vs, hv, g1, g2, g3, hK⟩) ⟨_, _, g1, g2, g3, hK⟩)
 ·rename_i p hf
  exact hT _ _ hf args h r h' hc K hK
 ·cases hc
theorem mM {op : COp} {ev : Opd → AV} {x : FuncId × List AV × Bool} (h : bZ op ev = some x) : fk op = true := by
 cases op <;> simp [bZ] at h <;> rfl
theorem yF {op : COp} {d : Option Nat} {ev : Opd → AV} {h : AH} {r : Up × AH} (hx : xop op d ev h = some r) : fk op = false := by
 cases op <;> simp [xop] at hx <;> rfl
theorem qO (hT : ∀ f d, T f = some d → cW P f d) {rec : Rec} (hr : tW P rec) {op : COp} {d : Option Nat} {σ : List AV} {h : AH} {s : List AV × AH} (hx : xeff T rec op d σ h = some s) {K : List AV → AH → Prop} (hK : K s.1 s.2) : Wop P op d σ h K := by
 unfold xeff at hx
 split at hx
 ·rename_i f args hc
  simp only [Option.map_eq_some_iff] at hx
  obtain ⟨⟨r, h'⟩, hcall, rfl⟩ := hx
  unfold Wop Wu
  simp only [mM hc, if_true]
  exact ⟨f, args, false, hc, lZ hT hr hcall (by rw [aE]; exact hK)⟩
 ·rename_i f args hc
  split at hx <;> try (cases hx; done)
  rename_i hm
  simp only [Option.bind_eq_some_iff] at hx
  obtain ⟨⟨r, h'⟩, hcall, hfin⟩ := hx
  cases h' with
  | cons b bs => simp [finP] at hfin
  | nil =>
   simp only [finP, Option.some.injEq] at hfin; subst hfin
   unfold Wop Wu
   simp only [mM hc, if_true]
   exact ⟨f, args, true, hc, hm, lZ hT hr hcall ⟨rfl, by show K (putL σ (putU d r)) h; rw [aE]; exact hK⟩⟩
 ·simp only [Option.map_eq_some_iff] at hx
  obtain ⟨r, hxo, rfl⟩ := hx
  unfold Wop Wu
  simp only [yF hxo, Bool.false_eq_true, if_false]
  exact ⟨r, hxo, hK⟩
theorem kT (hT : ∀ f d, T f = some d → cW P f d) {rec : Rec} (hr : tW P rec) : ∀ {l : List CO} {σ : List AV} {h : AH} {s : List AV × AH}, xops T rec l σ h = some s → ∀ {K : List AV → AH → Prop}, K s.1 s.2 → Wops P l σ h K
 | [], σ, h, s, hx, K, hK => by simp only [xops, Option.some.injEq] at hx; subst hx; exact hK
 | o :: l, σ, h, s, hx, K, hK => by
  simp only [xops, Option.bind_eq_some_iff] at hx
  obtain ⟨s1, h1, h2⟩ := hx
  exact qO hT hr h1 (K := fun σ' h' => Wops P l σ' h' K) (kT hT hr h2 hK)
theorem pg (hT : ∀ f d, T f = some d → cW P f d) {rec : Rec} (hr : tW P rec) : ∀ {l : List (CO × Bool)} {S : List Nat} {E : List (AH × AH)} {σ : List AV} {h : AH} {s : List AV × AH}, nA T rec S E l σ h = some s →
  ∃ S', (∀ i ∈ S, i ∈ S') ∧ (∀ e ∈ E, rP S' e.1 e.2) ∧ ∀ {K : List AV → AH → Prop}, K s.1 s.2 → vH P S' l σ h K
 | [], S, E, σ, h, s, hx => by
  simp only [nA] at hx
  split at hx <;> cases hx
  rename_i hE
  exact ⟨S, fun _ h => h, hE, fun hK => hK⟩
 | p :: l, S, E, σ, h, s, hx => by
  simp only [nA, Option.bind_eq_some_iff] at hx
  obtain ⟨s1, h1, h2⟩ := hx
  obtain ⟨S', q1, q2, q3⟩ := pg hT hr h2
  have hS : ∀ i ∈ S, i ∈ S' := fun i hi => q1 i (by
   unfold addS; split
   ·split <;> simp [hi]
   ·exact hi)
  have hE : ∀ e ∈ E, rP S' e.1 e.2 := fun e he => q2 e (by unfold addE; split <;> simp [he])
  refine ⟨S', hS, hE, fun {K} hK => ?_⟩
  have hw := qO hT hr h1 (K := fun σ' h' => σ' = s1.1 ∧ h' = s1.2) ⟨rfl, rfl⟩
  show WgD P S' p.2 p.1 σ h _
  refine ⟨fun hf hl hg => ?_, iL (fun u h' hh => ⟨fun hf hl => ?_, ?_⟩) hw⟩
  ·-- a marked load
   have heff : aW p.1 σ = p.1.op := by simp [aW, hg]
   have hcn : bZ p.1.op (ag σ) = none := by cases e : p.1.op <;> simp [e, isL] at hl <;> rfl
   rw [heff] at h1
   simp only [xeff, hcn, FT hl, val, Option.map_map] at h1
   have hsome : ∃ v, tK p.1.op (ag σ) h = some v := by
    cases e : tK p.1.op (ag σ) h with
    | none => rw [e] at h1; cases h1
    | some v => exact ⟨v, rfl⟩
   obtain ⟨v, hv⟩ := hsome
   have hadd : ∀ id, (∃ off, ag σ (eZ p.1.op) = .box id off) ∨ ag σ (eZ p.1.op) = .mp id → id ∈ S' := by
    intro id hid
    refine q1 id ?_
    unfold addS; rw [hf, hl, hg]
    rcases hid with ⟨off, e⟩ | e <;> simp [e]
   have hform : (∃ cs, ag σ (eZ p.1.op) = .ref cs) ∨ (∃ id off, ag σ (eZ p.1.op) = .box id off) ∨ (∃ id, ag σ (eZ p.1.op) = .mp id) ∨ ag σ (eZ p.1.op) = .nilm := by
    have hents : ∀ x : AV, (∃ es, qa h x = some es) → (∃ id, x = .mp id) ∨ x = .nilm := by
     rintro x ⟨es, he⟩
     cases x <;> simp only [qa] at he <;> first | exact .inl ⟨_, rfl⟩ | exact .inr rfl | cases he
    cases e : p.1.op <;> rw [e] at hv hl <;> simp only [isL, Bool.false_eq_true] at hl <;> simp only [tK] at hv <;> simp only [eZ]
    ·generalize ag σ _ = x at hv ⊢
     cases x <;> simp only [ld] at hv <;> first | exact .inl ⟨_, rfl⟩ | exact .inr (.inl ⟨_, _, rfl⟩) | cases hv
    ·rename_i d z ok x k
     unfold yl at hv
     split at hv <;> try (cases hv; done)
     simp only [Option.bind_eq_some_iff] at hv
     obtain ⟨es, he, _⟩ := hv
     exact .inr (.inr (hents _ ⟨es, he⟩))
    ·simp only [ym, Option.map_eq_some_iff] at hv
     obtain ⟨es, he, _⟩ := hv
     exact .inr (.inr (hents _ ⟨es, he⟩))
   rcases hform with h | ⟨id, off, h⟩ | ⟨id, h⟩ | h
   ·exact .inl h
   ·exact .inr (.inl ⟨id, off, h, hadd id (.inl ⟨off, h⟩)⟩)
   ·exact .inr (.inr (.inl ⟨id, h, hadd id (.inr h)⟩))
   ·exact .inr (.inr (.inr h))
  ·obtain ⟨_, rfl⟩ := hh
   exact q2 (h, s1.2) (by simp [addE, hf, hl])
  ·obtain ⟨h3, rfl⟩ := hh
   rw [h3]; exact q3 hK
theorem mN (hT : ∀ f d, T f = some d → cW P f d) {k : FuncId} (h : rV T k = true) : rR P k := by
 unfold rV at h
 split at h
 ·rename_i e; exact hT _ _ e
 ·cases h
theorem zS {rec : Rec} (hr : tW P rec) {asg body : CC} {p ps pp pv : Nat} {c : UInt8} {σ : List AV} : ∀ {xs : List (List UInt8 × List UInt8)} {h : AH} {e : Ex} {h' : AH} {Q : Ex → AH → Prop}, rsV (rec asg) (rec body) p ps pp pv c σ xs h = some (e, h') → Q e h' →
  WRs (M.W P asg) (M.W P body) p ps pp pv c σ xs h Q := by
 intro xs
 induction xs with
 | nil => intro h e h' Q hs hQ; simp only [rsV, Option.some.injEq, Prod.mk.injEq] at hs; obtain ⟨rfl, rfl⟩ := hs; exact hQ
 | cons x xs ih =>
  intro h e h' Q hs hQ
  obtain ⟨x, r⟩ := x
  simp only [rsV, Option.bind_eq_some_iff] at hs
  obtain ⟨⟨e1, σ1, h1⟩, ha, hb⟩ := hs
  simp only [WRs]
  refine hr _ _ _ _ _ _ _ ha ?_
  cases e1 with
  | normal =>
   refine ⟨rfl, ?_⟩
   simp only [Option.bind_eq_some_iff] at hb
   obtain ⟨⟨e2, σ2, h2⟩, ha2, hb2⟩ := hb
   refine hr _ _ _ _ _ _ _ ha2 ?_
   cases e2 with
   | normal =>
    simp only at hb2
    split at hb2 <;> try (cases hb2; done)
    rename_i hcc
    simp only [Bool.and_eq_true] at hcc
    refine ⟨hcc.1.1, hcc.1.2, hcc.2, ?_⟩
    cases xs with
    | nil => simp only [Option.some.injEq, Prod.mk.injEq] at hb2; obtain ⟨rfl, rfl⟩ := hb2; exact hQ
    | cons y ys => exact ih hb2 hQ
   | exit i => simp only [Option.some.injEq, Prod.mk.injEq] at hb2; obtain ⟨rfl, rfl⟩ := hb2; exact hQ
   | ret => simp only [Option.some.injEq, Prod.mk.injEq] at hb2; obtain ⟨rfl, rfl⟩ := hb2; exact hQ
  | exit i => simp at hb
  | ret => simp at hb
theorem yG (hT : ∀ f d, T f = some d → cW P f d) {rec : Rec} (hr : tW P rec) (hloop : ∀ c σ h e σ' h' (Q : Ex → List AV → AH → Prop), step T rec (.loop c) σ h = some (e, σ', h') → Q e σ' h' → W P (.loop c) σ h Q) : tW P (step T rec) := by
 intro c σ h e σ' h' Q hs hQ
 cases c with
 | skip => simp only [step, Option.some.injEq, Prod.mk.injEq] at hs; obtain ⟨rfl, rfl, rfl⟩ := hs; exact hQ
 | region ops =>
  simp only [step, Option.map_eq_some_iff, Prod.mk.injEq] at hs
  obtain ⟨s, h1, rfl, h2⟩ := hs
  exact kT hT hr h1 (by rw [h2]; exact hQ)
 | dregion ops =>
  simp only [step, Option.map_eq_some_iff, Prod.mk.injEq] at hs
  obtain ⟨s, h1, rfl, h2⟩ := hs
  obtain ⟨S', _, _, q⟩ := pg hT hr h1
  exact ⟨S', q (by rw [h2]; exact hQ)⟩
 | seq a b =>
  simp only [step, Option.bind_eq_some_iff] at hs
  obtain ⟨⟨e1, σ1, h1⟩, ha, hb⟩ := hs
  show W P a σ h _
  refine hr _ _ _ _ _ _ _ ha ?_
  cases e1 with
  | normal => exact hr _ _ _ _ _ _ _ hb hQ
  | exit i => simp only [Option.some.injEq, Prod.mk.injEq] at hb; obtain ⟨rfl, rfl, rfl⟩ := hb; exact hQ
  | ret => simp only [Option.some.injEq, Prod.mk.injEq] at hb; obtain ⟨rfl, rfl, rfl⟩ := hb; exact hQ
 | cond c x y =>
  simp only [step] at hs
  simp only [W]
  cases hc : ag σ c <;> rw [hc] at hs <;> try (cases hs; done)
  rename_i b
  cases b
  ·exact ⟨fun h => (by cases h), fun _ => hr _ _ _ _ _ _ _ hs hQ⟩
  ·exact ⟨fun _ => hr _ _ _ _ _ _ _ hs hQ, fun h => (by cases h)⟩
 | block id c =>
  simp only [step, Option.map_eq_some_iff] at hs
  obtain ⟨⟨e1, σ1, h1⟩, ha, hb⟩ := hs
  show W P c σ h _
  refine hr _ _ _ _ _ _ _ ha ?_
  cases e1 with
  | normal => simp only [outB, Prod.mk.injEq] at hb; obtain ⟨rfl, rfl, rfl⟩ := hb; exact hQ
  | exit i =>
   simp only [outB] at hb ⊢
   split at hb
   ·rename_i hi; rw [if_pos hi]; simp only [Prod.mk.injEq] at hb; obtain ⟨rfl, rfl, rfl⟩ := hb; exact hQ
   ·rename_i hi; rw [if_neg hi]; simp only [Prod.mk.injEq] at hb; obtain ⟨rfl, rfl, rfl⟩ := hb; exact hQ
  | ret => simp only [outB, Prod.mk.injEq] at hb; obtain ⟨rfl, rfl, rfl⟩ := hb; exact hQ
 | loop c => exact hloop c σ h e σ' h' Q hs hQ
 | exit id => simp only [step, Option.some.injEq, Prod.mk.injEq] at hs; obtain ⟨rfl, rfl, rfl⟩ := hs; exact hQ
 | ret => simp only [step, Option.some.injEq, Prod.mk.injEq] at hs; obtain ⟨rfl, rfl, rfl⟩ := hs; exact hQ
 | kill ws c =>
  show W P c (dD ws σ) h Q
  exact hr _ _ _ _ _ _ _ hs hQ
 | both a b =>
  simp only [step, nC] at hs
  exact ⟨hr _ _ _ _ _ _ _ hs.1 hQ, hr _ _ _ _ _ _ _ hs.2 hQ⟩
 | rsplit g p asg body =>
  simp only [step] at hs
  unfold rsS at hs
  split at hs <;> try (cases hs; done)
  rename_i k pp ps pv hev
  split at hs <;> try (cases hs; done)
  rename_i hspl
  split at hs <;> try (cases hs; done)
  rename_i cc s hsp
  simp only [Option.map_eq_some_iff, Prod.mk.injEq] at hs
  obtain ⟨⟨e1, h1⟩, hrs, rfl, rfl, rfl⟩ := hs
  unfold spl at hsp
  split at hsp <;> try (cases hsp; done)
  rename_i d s' q1 q2
  split at hsp <;> try (cases hsp; done)
  rename_i hd
  split at hsp <;> cases hsp
  rename_i hcc
  simp only [Bool.and_eq_true, bne_iff_ne, ne_eq] at hcc
  refine ⟨k, pp, ps, pv, cc, s'.data.toList, hev, mN hT hspl, hcc.1.1.2, hcc.1.2, ?_, ?_, hcc.1.1.1, ?_, zS hr hrs hQ⟩
  ·rw [q1]; simp [dF, hd]
  ·rw [q2]; simp [dF]
  ·have := Nat.le_of_ble_eq_true hcc.2; simpa using this
theorem mO (hT : ∀ f d, T f = some d → cW P f d) : ∀ n, tW P (ev T n) := by
 intro n
 induction n with
 | zero => intro c σ h e σ' h' Q hs; cases hs
 | succ n ih =>
  refine yG hT ih fun c σ h e σ' h' Q hs hQ => ?_
  refine ⟨fun σ1 h1 m => m ≤ n + 1 ∧ ev T m (.loop c) σ1 h1 = some (e, σ', h'), n + 1, ⟨Nat.le_refl _, hs⟩, ?_⟩
  rintro σ1 h1 m ⟨hm, he⟩
  cases m with
  | zero => cases he
  | succ m =>
   simp only [ev, step, Option.bind_eq_some_iff] at he
   obtain ⟨⟨e2, σ2, h2⟩, ha, hb⟩ := he
   refine ih _ _ _ _ _ _ _ (lY (by omega) _ _ _ _ ha) ?_
   cases e2 with
   | normal => exact ⟨m, by omega, by omega, hb⟩
   | exit i => simp only [Option.some.injEq, Prod.mk.injEq] at hb; obtain ⟨rfl, rfl, rfl⟩ := hb; exact hQ
   | ret => simp only [Option.some.injEq, Prod.mk.injEq] at hb; obtain ⟨rfl, rfl, rfl⟩ := hb; exact hQ
noncomputable def run (T : Tbl) (f : FuncId) (args : List AV) (h : AH) : Option (AV × AH) := ji T (den T) f args h
theorem ph (hT : ∀ f d, T f = some d → cW P f d) {f : FuncId} {args : List AV} {h h' : AH} {r : AV} (hc : run T f args h = some (r, h')) {K : AV → AH → Prop} (hK : K r h') : eU P f args h K := by
 obtain ⟨n, hn⟩ := rX f args h _ hc
 exact lZ hT (mO hT n) hn hK
end
end Go.Proofs.YtibchilpaaiecaaGreatDoor.M
