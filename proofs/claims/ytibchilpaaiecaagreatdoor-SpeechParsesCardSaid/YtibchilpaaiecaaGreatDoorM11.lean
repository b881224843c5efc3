/- The compiled operations speak of the machine. -/
import Derived.Test.YtibchilpaaiecaaGreatDoorM10
import Derived.Laws.MakeOwn
set_option linter.unusedVariables false
set_option linter.unusedSimpArgs false
namespace Go.Proofs.YtibchilpaaiecaaGreatDoor.M
open Go.RowKit
theorem aE (σ : List AV) (d : Option Nat) (v : AV) : putL σ (putU d v) = putA σ d v := by cases d <;> rfl
theorem dL (σ : List AV) (u v : Up) : putL σ (u ++ v) = putL (putL σ u) v := by
 induction u generalizing σ with
 | nil => rfl
 | cons p u ih => exact ih _
theorem iT (σ : List AV) (x : Opd) : putL σ (lU (ag σ) x) = (da σ x).2 := by cases x <;> rfl
theorem lV (σ : List AV) (x : Opd) : (da σ x).1 = ag σ x := by cases x <;> rfl
section
variable {K : AV → Prop} {r : AV}
theorem FM {c x y : AV} (h : yq c x y = some r) (k : K r) : zk K c x y := by
 cases c <;> simp only [yq] at h <;> cases h; exact k
theorem zE {m : Option Nat} {h : AH} {x : AV} (hh : ld m h x = some r) (k : K r) : tr m h K x := by
 cases x <;> simp only [ld] at hh <;> try (cases hh; done)
 ·rename_i id off
  simp only [tr]
  cases e : h[id]? with
  | none => rw [e] at hh; simp [tF] at hh
  | some b =>
   rw [e] at hh
   cases b <;> simp only [tF] at hh <;> try (cases hh; done)
   rename_i cs
   refine ⟨cs, rfl, ?_⟩
   cases m with
   | none =>
    simp only [Option.map_eq_some_iff] at hh
    obtain ⟨c, hc, rfl⟩ := hh; exact ⟨c, hc, k⟩
   | some n =>
    simp only at hh ⊢
    split at hh <;> cases hh
    rename_i hc; exact ⟨hc, k⟩
 ·rename_i cs
  simp only [tr]
  cases m with
  | none => cases cs <;> simp only [CI] at hh <;> cases hh; exact ⟨_, rfl, k⟩
  | some n =>
   simp only at hh ⊢
   split at hh <;> cases hh
   rename_i hc; exact ⟨hc, k⟩
theorem CL {x : AV} (h : oS x = some r) (k : K r) : vj K x := by
 cases x <;> simp only [oS] at h <;> try (cases h; done)
 ·cases h; exact k
 ·cases h; exact k
 ·rename_i f a b
  cases f <;> simp only [oS] at h <;> cases h; exact k
theorem EV {op : BinOp} {x y : AV} (h : binV op x y = some r) (k : K r) : rp op K x y := by
 cases x <;> cases y <;> simp only [binV] at h <;> try (cases h; done)
 ·cases op <;> simp only [] at h <;> simp only [rp] <;> split at h <;> cases h <;> rename_i hc <;> first | exact ⟨hc, k⟩ | exact ⟨hc.1, hc.2, k⟩
 ·cases op <;> simp only [] at h <;> simp only [rp] <;> first | (cases h; done) | (cases h; exact k) | (split at h <;> cases h; rename_i hc; exact ⟨hc, k⟩)
theorem Kw {op : UnOp} {x : AV} (h : unV op x = some r) (k : K r) : unAV op K x := by
 cases x <;> simp only [unV] at h <;> try (cases h; done)
 all_goals (cases op <;> simp only [] at h <;> simp only [unAV] <;> cases h <;> exact k)
theorem FN {kk : IntKind} {x : AV} (h : zx kk x = some r) (k : K r) : zh kk K x := by
 cases x <;> simp only [zx] at h <;> cases h; exact k
theorem FO {x : AV} (h : FJ x = some r) (k : K r) : zi K x := by
 cases x <;> simp only [FJ] at h <;> cases h; exact k
theorem tG : ∀ {es : List (List AV)} {bs : List UInt8}, decB es = some bs → es = bs.map encB
 | [], bs, h => by simp only [decB, Option.some.injEq] at h; subst h; rfl
 | e :: es, bs, h => by
  unfold decB at h
  split at h <;> try (cases h; done)
  ·rename_i heq; cases heq
  ·rename_i n rr heq
   cases heq
   split at h <;> try (cases h; done)
   rename_i hn
   simp only [Option.map_eq_some_iff] at h
   obtain ⟨bs', hb, rfl⟩ := h
   rw [tG hb]
   simp only [List.map_cons, encB]
   congr 3
   rw [UInt8.toNat_ofNat']; omega
theorem wI : ∀ (bs : List UInt8), decB (bs.map encB) = some bs
 | [] => rfl
 | b :: bs => by
  have := b.toNat_lt
  have hd := wI bs
  simp only [List.map_cons, encB, decB] at hd ⊢
  rw [if_pos (by omega), hd]
  simp
theorem CM {x : AV} (h : oT x = some r) (k : K r) : vh K x := by
 cases x <;> simp only [oT] at h <;> try (cases h; done)
 simp only [Option.map_eq_some_iff] at h
 obtain ⟨bs, hb, rfl⟩ := h
 exact ⟨bs, tG hb, k⟩
theorem CN {o : Nat} {x : AV} (h : qH o x = some r) (k : K r) : u9 o K x := by
 cases x <;> simp only [qH] at h <;> cases h <;> exact k
theorem wJ {m : Option Nat} {o : Nat} {x : AV} (h : wC m o x = some r) (k : K r) : jg m o K x := by
 cases x <;> simp only [wC] at h <;> try (cases h; done)
 simp only [jg]
 cases m with
 | none =>
  simp only [Option.map_eq_some_iff] at h
  obtain ⟨c, hc, rfl⟩ := h; exact ⟨c, hc, k⟩
 | some n =>
  simp only at h ⊢
  split at h <;> cases h
  rename_i hc; exact ⟨hc, k⟩
theorem IX {neg : Bool} {x y : AV} (h : eqbV neg x y = some r) (k : K r) : CF neg K x y := by
 cases x <;> cases y <;> simp only [eqbV] at h <;> cases h; exact k
theorem wK {nk : NK} {neg : Bool} {x : AV} (h : qJ nk neg x = some r) (k : K r) : vu nk neg K x := by
 cases x <;> simp only [qJ] at h <;> try (cases h; done)
 all_goals (split at h <;> cases h; rename_i hc; exact ⟨hc, k⟩)
theorem wL {neg : Bool} {x : AV} (h : wE neg x = some r) (k : K r) : vv neg K x := by
 cases x <;> simp only [wE] at h <;> try (cases h; done)
 rename_i m es
 cases es <;> simp only [wE] at h <;> cases h
 intro b hb
 cases b
 ·exact k
 ·exact absurd (hb rfl) (by simp)
theorem FP {mx : Bool} {x y : AV} (h : FL mx x y = some r) (k : K r) : zm mx K x y := by
 cases x <;> cases y <;> simp only [FL] at h <;> cases h; exact k
theorem CP {z : List AV} {ps : List (Nat × Nat × AV)} (h : qI z ps = some r) (k : K r) : rC z K ps := by
 simp only [qI, Option.map_eq_some_iff] at h
 obtain ⟨cs, hc, rfl⟩ := h
 unfold rC; rw [hc]; exact k
theorem wM {S : Nat} : ∀ {vs : List AV}, yu S vs = true → wy S vs
 | [], _ => fun v hv => by simp at hv
 | w :: vs, h => fun v hv => by
  simp only [yu, Bool.and_eq_true, beq_iff_eq] at h
  rcases List.mem_cons.1 hv with rfl | hv
  ·exact h.1
  ·exact wM h.2 v hv
theorem rI {S : Nat} {g : Gh} {m : Md} {es : List (List AV)} {u : Value} (hv : VR g (.sl m es) u) (h : szOK S es = true) : ∀ e ∈ es, e.length = S := by
 intro e he
 cases es with
 | nil => simp at he
 | cons x xs =>
  simp only [szOK, beq_iff_eq] at h
  simp only [VR] at hv
  rcases hv with ⟨hn, _⟩ | ⟨_, _, _, _, _, _, _, hu, _⟩
  ·cases hn
  ·rw [hu e he]; exact h
end
section
variable {P : Program} {w0 w : World} {ds : List Deferred} {g : Gh} {h : AH} {n : Nat → Nat} {σ : List AV} {a : Act}
theorem rJ (hg : Gl g) (hv : VL g σ a.tmps.toList) : ∀ {l : List Operand} {l' : List Opd}, l.mapM aB = some l' → VL g (l'.map (ag σ)) (l.map a.eval)
 | [], l', hl => by simp at hl; subst hl; simp [VL]
 | x :: l, l', hl => by
  simp only [List.mapM_cons, Option.bind_eq_bind, Option.bind_eq_some_iff, Option.pure_def, Option.some.injEq] at hl
  obtain ⟨y, hy, l'', hl'', rfl⟩ := hl
  exact ⟨a.eval x, _, rfl, ai hg hv hy, rJ hg hv hl''⟩
theorem cO {o : Oper} {K : List AV → AH → Prop} {Q : Exit → Act → World → Prop} {s : Sem Value} (hs : SR ds w0 g n σ h a w) (he : (execOp a.eval o).run P w = (s.run P w).andThen fun v w => .ok (.value v) w)
  (hk : ∃ r z, s.run P w = .ok z w ∧ VR g r z ∧ r.cl = true ∧ K (putA σ o.dst r) h) : o.wp P a w (bI ds w0 g n w K) Q := by
 obtain ⟨r, z, h1, h2, h3, h4⟩ := hk
 exact eF hs (by rw [he, h1]; rfl) h2 h3 h4
theorem vB {op : BinOp} {t : TypeId} {x y : Operand} {k k' : IntKind} {i j : Int} : (eqGuard op t x y (.int k i) (.int k' j)).run P w = .ok () w := by
 cases op <;> rfl
theorem vC {op : BinOp} {t : TypeId} {x y : Operand} {i j : ByteArray} : (eqGuard op t x y (.string i) (.string j)).run P w = .ok () w := by
 cases op <;> rfl
theorem EW {o : Oper} {K : List AV → AH → Prop} {Q : Exit → Act → World → Prop} {op : BinOp} {t u : TypeId} {x y : Operand} {x' y' : Opd} (hop : o.op = .binOp op t x y u) (hx : aB x = some x') (hy : aB y = some y')
  (hs : SR ds w0 g n σ h a w) (hk : rp op (fun v => K (putA σ o.dst v) h) (ag σ x') (ag σ y')) : o.wp P a w (bI ds w0 g n w K) Q := by
 have vx := ai hs.inv.gl hs.vl hx
 have vy := ai hs.inv.gl hs.vl hy
 obtain ⟨r, z, h1, h2, h3, h4⟩ := y8 (P := P) (w := w) t vx vy hk
 refine eF hs ?_ h2 h3 h4
 have hg : (eqGuard op t x y (a.eval x) (a.eval y)).run P w = .ok () w := by
  generalize ag σ x' = p at *
  generalize ag σ y' = q at *
  cases p <;> cases q <;> simp only [rp] at hk <;> try (exact hk.elim)
  ·simp only [VR] at vx vy; rw [vx, vy]; exact vB
  ·simp only [VR] at vx vy; rw [vx, vy]; exact vC
 simp [execOp, hop, hg, h1]
theorem zF {o : Oper} {K : List AV → AH → Prop} {Q : Exit → Act → World → Prop} {f : FuncId} {args : List AV} {vs : List Value} (hs : SR ds w0 g n σ h a w) (hr : ∀ fn, P.funcs[f]? = some fn → fn.body.isSome = true → (fn.name == "runtime.NumGoroutine") = false →
   (execOp a.eval o).run P w = .ok (.enter f vs.toArray) w) (hv : VL g args vs) (hc : clL args = true)
  (hk : eU P f args h (fun r h' => K (putA σ o.dst r) h')) : o.wp P a w (bI ds w0 g n w K) Q := by
 obtain ⟨⟨fn, f1, f2, f3⟩, hsp, _⟩ := hk
 unfold Oper.wp
 rw [hr fn f1 f2 f3, Oper.upon_enter]
 refine (hsp w0 g _ w vs hv hc hs.inv).mono ?_
 rintro e w' ⟨g', r, u, h', rfl, hK, hg, hkp, hvr, hov, hinv⟩
 refine ⟨g', _, h', hK, hg, hkp.le fun B => Nat.le_add_right _ _, hs.step o.dst (VL.mono hg _ _ hs.vl) (OVL.keep hs.ov fun B hB => hkp B (by show 0 < n B + tkL σ a.tmps.toList B; omega)) hvr hov hinv⟩
theorem vD {f : FuncId} {o : Oper} {args : Array Operand} {ts : Array TypeId} (hop : o.op = .call { callee := .value (.func f), args, argTypes := ts }) {fn : Func} (h1 : P.funcs[f]? = some fn) (h2 : fn.body.isSome = true) (h3 : (fn.name == "runtime.NumGoroutine") = false) :
  (execOp a.eval o).run P w = .ok (.enter f (args.map a.eval)) w := by
 have hb : fn.body.isNone = false := by cases hf : fn.body <;> simp_all
 have h3' : ¬ fn.name = "runtime.NumGoroutine" := by simpa using h3
 have hb' : ¬ fn.body = none := by intro hn; simp [hn] at hb
 simp [execOp, hop, resolve, Act.eval, Deferred.ofValue, invoke, callFunc, h1, h3', hb']
theorem tH {f : FuncId} {o : Oper} {t : Tmp} {args : Array Operand} {ts : Array TypeId} {xs ys : Array Value} (hop : o.op = .call { callee := .value (.tmp t), args, argTypes := ts }) (ht : a.eval (.tmp t) = .func (.func f) xs ys)
  {fn : Func} (h1 : P.funcs[f]? = some fn) (h2 : fn.body.isSome = true) (h3 : (fn.name == "runtime.NumGoroutine") = false) :
  (execOp a.eval o).run P w = .ok (.enter f (xs ++ args.map a.eval ++ ys)) w := by
 have hb : fn.body.isNone = false := by cases hf : fn.body <;> simp_all
 have h3' : ¬ fn.name = "runtime.NumGoroutine" := by simpa using h3
 have hb' : ¬ fn.body = none := by intro hn; simp [hn] at hb
 simp [execOp, hop, resolve, ht, Deferred.ofValue, invoke, callFunc, h1, h3', hb']
theorem VL.shl {l : List AV} {us : List Value} (h : VL g l us) : VL g (shL l) us := VL.sh _ _ h
theorem tI {lo : Option Operand} {lo' : Option Opd} (hg : Gl g) (hv : VL g σ a.tmps.toList) (hc : oW lo = some lo') {l : Option Int} (hl : bndA σ lo' = some l) : BndR (lo.map a.eval) l := by
 cases lo with
 | none => simp [oW] at hc; subst hc; simp [bndA] at hl; subst hl; rfl
 | some x =>
  simp only [oW] at hc
  split at hc
  ·rename_i y hy
   cases hc
   have vx := ai hg hv hy
   simp only [bndA] at hl
   split at hl
   ·rename_i k i he
    cases hl
    rw [he] at vx
    simp only [VR] at vx
    exact ⟨k, i, vx, rfl⟩
   ·cases hl
  ·cases hc
theorem ig {t : TypeId} {m : Option Nat} (h : varOf P t = some m) : tq P t m := by
 unfold varOf at h
 split at h
 ·rename_i d hd
  split at h
  ·rename_i hag
   cases hq : szOf P t with
   | none => simp [hq] at h
   | some k => simp [hq] at h; subst h; exact ⟨d, hd, hag, hq⟩
  ·rename_i hag
   cases h
   exact ⟨d, hd, by simpa using hag⟩
 ·cases h
theorem arr1 {α : Type} {xs : Array α} {x : α} (h : xs.toList = [x]) : xs = #[x] := by apply Array.ext'; simpa using h
theorem arr2 {α : Type} {xs : Array α} {x y : α} (h : xs.toList = [x, y]) : xs = #[x, y] := by apply Array.ext'; simpa using h
mutual
theorem OV.base {w0 w1 w : World} {g : Gh} (hb : w0.heap.size ≤ w1.heap.size) : ∀ {v : AV} {u : Value}, OV w1 g w v u → OV w0 g w v u
 | .sl m es, u, h => by
  cases m with
  | own =>
   cases u with
   | slice a len cap =>
    cases a with
    | none => simp [OV]
    | some a => simp only [OV] at h ⊢; exact ⟨Nat.le_trans hb h.1, h.2⟩
   | _ => simp [OV]
  | sh => simp [OV]
  | ex => simp [OV]
 | .agg cs, u, h => by
  cases u <;> simp only [OV] at h ⊢
  exact OVL.base hb h
 | .tup cs, u, h => by
  cases u <;> simp only [OV] at h ⊢
  exact OVL.base hb h
 | .int _ _, u, h => by simp [OV]
 | .bool _, u, h => by simp [OV]
 | .str _, u, h => by simp [OV]
 | .nilp, u, h => by simp [OV]
 | .box _ _, u, h => by simp [OV]
 | .ref _, u, h => by simp [OV]
 | .nili, u, h => by simp [OV]
 | .iface _ _, u, h => by simp [OV]
 | .nilf, u, h => by simp [OV]
 | .fn _ _ _, u, h => by simp [OV]
 | .nilm, u, h => by simp [OV]
 | .mp _, u, h => by simp [OV]
 | .any, u, h => by simp [OV]
 | .bs _ _ _ _, u, h => by simp [OV]
theorem OVL.base {w0 w1 w : World} {g : Gh} (hb : w0.heap.size ≤ w1.heap.size) : ∀ {vs : List AV} {us : List Value}, OVL w1 g w vs us → OVL w0 g w vs us
 | [], us, h => by simp [OVL]
 | c :: cs, [], h => by simp [OVL]
 | c :: cs, u :: us, h => by
  simp only [OVL] at h ⊢
  exact ⟨OV.base hb h.1, OVL.base hb h.2⟩
end
def ij (g : Gh) (h : AH) (B : Nat) : Prop := ∃ i b, h[i]? = some b ∧ b ≠ .dead ∧ g.bx i = some B
mutual
theorem VR.noBox {g g' : Gh} (hp : ∀ B o v, g.prot B o = some v → g'.prot B o = some v) : ∀ (v : AV) (u : Value), VR g v u → v.mr = 0 → VR g' v u
 | .box id off, u, h, hm => by simp [AV.mr] at hm
 | .mp id, u, h, hm => by simp [AV.mr] at hm
 | .bs id off len cap, u, h, hm => by simp [AV.mr] at hm
 | .ref cs, u, h, hm => by
  simp only [VR, AV.mr] at *
  obtain ⟨B, o, rfl, hq⟩ := h; exact ⟨B, o, rfl, PR.noBox hp cs B o hq hm⟩
 | .sl m es, u, h, hm => by
  simp only [VR, AV.mr] at *
  rcases h with hn | ⟨B, o, cap, h1, h2, h3, h4, h5, hq⟩
  ·exact .inl hn
  ·exact .inr ⟨B, o, cap, h1, h2, h3, h4, h5, PE.noBox hp es B o hq hm⟩
 | .agg cs, u, h, hm => by
  simp only [VR, AV.mr] at *
  obtain ⟨vs, rfl, hv, ho⟩ := h; exact ⟨vs, rfl, VL.noBox hp cs _ hv hm, ho⟩
 | .tup cs, u, h, hm => by
  simp only [VR, AV.mr] at *
  obtain ⟨vs, rfl, hv⟩ := h; exact ⟨vs, rfl, VL.noBox hp cs _ hv hm⟩
 | .iface t x, u, h, hm => by
  simp only [VR, AV.mr] at *
  obtain ⟨y, rfl, hv, hc⟩ := h; exact ⟨y, rfl, VR.noBox hp x _ hv hm, hc⟩
 | .fn f a b, u, h, hm => by
  simp only [VR, AV.mr] at *
  obtain ⟨xs, ys, rfl, h1, h2, h3⟩ := h; exact ⟨xs, ys, rfl, VL.noBox hp a _ h1 (by omega), VL.noBox hp b _ h2 (by omega), h3⟩
 | .int k n, u, h, hm => by simpa only [VR] using h
 | .bool b, u, h, hm => by simpa only [VR] using h
 | .str s, u, h, hm => by simpa only [VR] using h
 | .nilp, u, h, hm => by simpa only [VR] using h
 | .nili, u, h, hm => by simpa only [VR] using h
 | .nilf, u, h, hm => by simpa only [VR] using h
 | .nilm, u, h, hm => by simpa only [VR] using h
 | .any, u, h, hm => by simp only [VR]
theorem VL.noBox {g g' : Gh} (hp : ∀ B o v, g.prot B o = some v → g'.prot B o = some v) : ∀ (vs : List AV) (us : List Value), VL g vs us → mrL vs = 0 → VL g' vs us
 | [], us, h, hm => by simpa only [VL] using h
 | c :: cs, us, h, hm => by
  simp only [VL, mrL] at *
  obtain ⟨v, vs, rfl, h1, h2⟩ := h; exact ⟨v, vs, rfl, VR.noBox hp c v h1 (by omega), VL.noBox hp cs vs h2 (by omega)⟩
theorem PR.noBox {g g' : Gh} (hp : ∀ B o v, g.prot B o = some v → g'.prot B o = some v) : ∀ (vs : List AV) (B o : Nat), PR g vs B o → mrL vs = 0 → PR g' vs B o
 | [], B, o, h, hm => by simp [PR]
 | c :: cs, B, o, h, hm => by
  simp only [PR, mrL] at *
  obtain ⟨⟨u, h1, h2, h3⟩, hr⟩ := h; exact ⟨⟨u, hp _ _ _ h1, VR.noBox hp c u h2 (by omega), h3⟩, PR.noBox hp cs _ _ hr (by omega)⟩
theorem PE.noBox {g g' : Gh} (hp : ∀ B o v, g.prot B o = some v → g'.prot B o = some v) : ∀ (es : List (List AV)) (B o : Nat), PE g es B o → mrLL es = 0 → PE g' es B o
 | [], B, o, h, hm => by simp [PE]
 | e :: es, B, o, h, hm => by
  simp only [PE, mrLL] at *
  exact ⟨PR.noBox hp e B o h.1 (by omega), PE.noBox hp es B _ h.2 (by omega)⟩
end
theorem qL {f : FuncId} {args : List AV} {h : AH} {K : AV → AH → Prop} (hm : mrL args = 0) (hc : eU P f args [] (fun r h' => h' = [] ∧ K r h)) : eU P f args h K := by
 obtain ⟨h1, h2, hsome⟩ := hc
 refine ⟨h1, ?_, let ⟨r0, _, hk0⟩ := hsome; ⟨r0, h, hk0.2⟩⟩
 clear hsome
 intro w0 g n w vs ha hcl hi
 obtain ⟨bv, e1, e2, e3⟩ := hi.rest
 have hex : ∃ n0 : Nat → Nat, ∀ B, (ij g h B → n0 B = 1) ∧ (¬ ij g h B → n0 B = n B + tkBs h bv B) := by
  classical
  exact ⟨fun B => if ij g h B then 1 else n B + tkBs h bv B, fun B => ⟨fun x => if_pos x, fun x => if_neg x⟩⟩
 obtain ⟨n0, hn0⟩ := hex
 have hlive : ∀ B, ij g h B → n B = 0 ∧ tkBs h bv B = 0 ∧ B < w.heap.size := by
  rintro B ⟨i, b, hb, hd, hB⟩
  refine ⟨?_, ?_, (hi.bxd i B hB).2⟩
  ·cases e : n B with
   | zero => rfl
   | succ m => exact absurd hB ((hi.tokp B (by omega)).2 i b hb hd)
  ·cases e : tkBs h bv B with
   | zero => rfl
   | succ m =>
    obtain ⟨j, c, ys, q1, q2, q3⟩ := je (h := h) (bv := bv) (B := B) (by omega)
    exact absurd hB ((hi.prot_ok ((e2 j c ys q1 q2).tk_prot q3)).2 i b hb hd)
 have hle0 : ∀ B, n B + tkBs h bv B ≤ n0 B := fun B => by
  by_cases hl : ij g h B
  ·have := hlive B hl; omega
  ·rw [(hn0 B).2 hl]; exact Nat.le_refl _
 have hi0 : Inv w ⟨g.prot, fun _ => none⟩ [] n0 w := by
  refine ⟨hi.gw.below hi.below, hi.gl, Below.refl _ _, hi.prot, fun i B hB => by simp at hB, fun i j B hB => by simp at hB, fun B hB => ⟨?_, fun i b hb => by simp at hb⟩, [], rfl, fun i b ys hb => by simp at hb, fun B => ?_⟩
  ·by_cases hl : ij g h B
   ·exact (hlive B hl).2.2
   ·rw [(hn0 B).2 hl] at hB
    by_cases hc : 0 < n B
    ·exact (hi.tokp B hc).1
    ·obtain ⟨j, c, ys, q1, q2, q3⟩ := je (h := h) (bv := bv) (B := B) (by omega)
     exact (hi.prot_ok ((e2 j c ys q1 q2).tk_prot q3)).1
  ·simp only [tkBs, Nat.add_zero]
   by_cases hl : ij g h B
   ·rw [(hn0 B).1 hl]; exact Nat.le_refl _
   ·rw [(hn0 B).2 hl]; exact e3 B
 refine (h2 w ⟨g.prot, fun _ => none⟩ n0 w vs (VL.noBox (g := g) (g' := ⟨g.prot, fun _ => none⟩) (fun _ _ _ x => x) _ _ ha hm) hcl hi0).mono ?_
 rintro e w' ⟨g', r, u, h', rfl, ⟨rfl, hK⟩, hle, hkp, hvr, hov, hinv⟩
 have hbx : ∀ i, g'.bx i = none := fun i => by
  cases e : g'.bx i with
  | none => rfl
  | some B => exact absurd (hinv.bxd i B e).1 (by simp)
 have hgle : g'.le ⟨g'.prot, g.bx⟩ := ⟨fun _ _ _ x => x, fun i B hB => by rw [hbx] at hB; cases hB⟩
 have hgl : g.le ⟨g'.prot, g.bx⟩ := ⟨fun B o v hv => hle.prot B o v hv, fun _ _ x => x⟩
 have hsz : w.heap.size ≤ w'.heap.size := hinv.below.size
 have hkeep : ∀ B, 0 < n0 B → w'.heap[B]? = w.heap[B]? ∧ ∀ o, g'.prot B o = g.prot B o := fun B hB => hkp B hB
 obtain ⟨bv', f1, f2, f3⟩ := hinv.rest
 have hOV : OV w0 ⟨g'.prot, g.bx⟩ w' r u := OV.base hi.below.size (OV.keep hov fun B _ => ⟨rfl, fun _ => rfl⟩)
 refine ⟨⟨g'.prot, g.bx⟩, r, u, h, rfl, hK, hgl, fun B hB => hkeep B (Nat.lt_of_lt_of_le hB (Nat.le_trans (Nat.le_add_right _ _) (hle0 B))), VR.mono hgle _ _ hvr, hOV, ?_⟩
 refine ⟨hi.gw, hi.gl.mono hle.prot, hi.below.trans (hinv.below.mono hi.below.size), hinv.prot, fun i B hB => ?_, hi.inj, fun B hB => ?_, bv, e1, fun i b ys hb hy => ?_, fun B => ?_⟩
 ·have := hi.bxd i B hB; exact ⟨this.1, by omega⟩
 ·by_cases hc : 0 < n B
  ·have := hi.tokp B hc; exact ⟨by omega, this.2⟩
  ·have ht := hinv.tokp B (by omega)
   refine ⟨ht.1, fun i b hb hd hB' => ?_⟩
   have := f3 B
   rw [(hn0 B).1 ⟨i, b, hb, hd, hB'⟩] at this
   omega
 ·refine (e2 i b ys hb hy).keep hgl (fun hd B hB => ?_) (fun B hB => ?_)
  ·obtain ⟨k1, k2⟩ := hkeep B (by rw [(hn0 B).1 ⟨i, b, hb, hd, hB⟩]; omega)
   exact ⟨k1, fun hn p => by have := k2 p; rw [hn p] at this; exact this⟩
  ·have := mq hb hy B
   have := hle0 B
   obtain ⟨k1, k2⟩ := hkeep B (by omega)
   exact ⟨k1, k2⟩
 ·have h3 := f3 B
  have := hle0 B
  simp only [tkBs] at h3
  have : tkBs [] bv' B = 0 := by simp [tkBs]
  omega
abbrev XK (c : COp) (o : Oper) (σ : List AV) (h : AH) (K : List AV → AH → Prop) : Prop := ∃ r, xop c o.dst (ag σ) h = some r ∧ K (putL σ r.1) r.2
theorem bl {d : Option Nat} {f : Option AV} {K : List AV → AH → Prop} (hk : ∃ r, val d h f = some r ∧ K (putL σ r.1) r.2) : ∃ v, f = some v ∧ K (putA σ d v) h := by
 obtain ⟨r, hr, hk⟩ := hk
 simp only [val, Option.map_eq_some_iff] at hr
 obtain ⟨v, hv, rfl⟩ := hr
 exact ⟨v, hv, by rwa [aE] at hk⟩
theorem nP {o : Oper} {mx : Bool} {c : COp} {args : Array Operand} {ts : Array TypeId} (hc : qK mx args.toList = some c) (hop : o.op = .call { callee := .builtin (if mx then .max else .min), args, argTypes := ts }) {K : List AV → AH → Prop} {Q : Exit → Act → World → Prop} (hs : SR ds w0 g n σ h a w) (hk : XK c o σ h K) : o.wp P a w (bI ds w0 g n w K) Q := by
 generalize hl1 : args.toList = l1 at hc
 unfold qK at hc
 split at hc <;> try (cases hc; done)
 rename_i x y
 have ha := arr2 hl1
 subst ha
 split at hc <;> cases hc
 rename_i h1 h2
 obtain ⟨v, hv, hk⟩ := bl hk
 have hk := FP (K := fun v => K (putA σ o.dst v) h) hv hk
 cases mx
 ·exact cO hs (s := Builtin.min_ ts o.type #[a.eval x, a.eval y]) (by simp [execOp, hop, resolve, invoke, builtin]) (qF (ts := ts) (ty := o.type) (mx := false) (ai hs.inv.gl hs.vl h1) (ai hs.inv.gl hs.vl h2) hk)
 ·exact cO hs (s := Builtin.max_ ts o.type #[a.eval x, a.eval y]) (by simp [execOp, hop, resolve, invoke, builtin]) (qF (ts := ts) (ty := o.type) (mx := true) (ai hs.inv.gl hs.vl h1) (ai hs.inv.gl hs.vl h2) hk)
theorem tJ {o : Oper} {op : BinOp} {t u : TypeId} {x y : Operand} {d : TypeDesc} {c : COp} (hc : wG P op d x y = some c) (ht : P.underlying t = some d) (hop : o.op = .binOp op t x y u)
  {K : List AV → AH → Prop} {Q : Exit → Act → World → Prop} (hs : SR ds w0 g n σ h a w) (hk : XK c o σ h K) : o.wp P a w (bI ds w0 g n w K) Q := by
 unfold wG at hc
 split at hc <;> try (cases hc; done)
 rename_i neg hneg
 have hn : op = if neg then .neq else .eql := by cases op <;> simp [eqOp] at hneg <;> subst hneg <;> rfl
 split at hc
 ·split at hc <;> cases hc
  rename_i x' y' h1 h2
  obtain ⟨v, hv, hk⟩ := bl hk
  replace hk := IX (K := fun v => K (putA σ o.dst v) h) hv hk
  refine cO hs (s := binOp op t (a.eval x) (a.eval y)) ?_ (hn ▸ zn ht (ai hs.inv.gl hs.vl h1) (ai hs.inv.gl hs.vl h2) hk)
  have vx := ai (a := a) hs.inv.gl hs.vl h1
  have vy := ai (a := a) hs.inv.gl hs.vl h2
  have hg : (eqGuard op t x y (a.eval x) (a.eval y)).run P w = .ok () w := by
   generalize ag σ x' = p at *
   generalize ag σ y' = q at *
   cases p <;> cases q <;> simp only [CF] at hk <;> try (exact hk.elim)
   simp only [VR] at vx vy; rw [vx, vy]
   cases op <;> rfl
  simp [execOp, hop, hg]
 ·rename_i e
  split at hc
  ·rename_i hy
   split at hc <;> cases hc
   rename_i x' h1
   obtain ⟨v, hv, hk⟩ := bl hk
   have hk' := wL (K := fun v => K (putA σ o.dst v) h) hv hk
   obtain ⟨q1, q2⟩ := zp (e := e) hk'
   exact gg (.inl hop) hn h1 ht hy hs q1 q2
  ·split at hc <;> try (cases hc; done)
   rename_i hx
   split at hc <;> cases hc
   rename_i y' h1
   obtain ⟨v, hv, hk⟩ := bl hk
   have hk' := wL (K := fun v => K (putA σ o.dst v) h) hv hk
   obtain ⟨q1, q2⟩ := zp (e := e) hk'
   exact gg (.inr hop) hn h1 ht hx hs q1 q2
 ·split at hc <;> try (cases hc; done)
  rename_i k hkk
  split at hc
  ·rename_i hy
   split at hc <;> cases hc
   rename_i x' h1
   obtain ⟨v, hv, hk⟩ := bl hk
   have hk' := wK (K := fun v => K (putA σ o.dst v) h) hv hk
   obtain ⟨q1, q2⟩ := zo hkk hk'
   exact gg (.inl hop) hn h1 ht hy hs q1 q2
  ·split at hc <;> try (cases hc; done)
   rename_i hx
   split at hc <;> cases hc
   rename_i y' h1
   obtain ⟨v, hv, hk⟩ := bl hk
   have hk' := wK (K := fun v => K (putA σ o.dst v) h) hv hk
   obtain ⟨q1, q2⟩ := zo hkk hk'
   exact gg (.inr hop) hn h1 ht hx hs q1 q2
theorem IY {t ty e : TypeId} {K : AV → Prop} {id off len : Nat} {cap : Option Nat} {u : Value} (ht : P.underlying t = some (.slice e)) (hx : VR g (.bs id off len cap) u) (hk : K (.int .i64 len)) :
  ∃ r z, (Builtin.len_ #[t] ty #[u]).run P w = .ok z w ∧ VR g r z ∧ r.cl = true ∧ K r := by
 simp only [VR] at hx
 obtain ⟨B, C, o, hb, rfl, _⟩ := hx
 exact hZ hk (by simp [Builtin.len_, run_underlying ht, goInt])
theorem VL.of_get {g : Gh} : ∀ {vs : List AV} {us : List Value}, us.length = vs.length → (∀ (i : Nat) (v : AV), vs[i]? = some v → ∃ u, us[i]? = some u ∧ VR g v u) → VL g vs us
 | [], us, hl, _ => by simp only [VL]; exact List.eq_nil_of_length_eq_zero (by simpa using hl)
 | v :: vs, [], hl, _ => by simp at hl
 | v :: vs, u :: us, hl, h => by
  obtain ⟨u', h1, h2⟩ := h 0 v rfl
  simp only [List.getElem?_cons_zero, Option.some.injEq] at h1; subst h1
  exact ⟨u, us, rfl, h2, VL.of_get (by simpa using hl) fun i x hi => by simpa using h (i + 1) x (by simpa using hi)⟩
theorem rK {α : Type} (l : List α) (hl : 0 < l.length) : ∀ (c i : Nat), i < c * l.length → (List.replicate c l).flatten[i]? = l[i % l.length]?
 | 0, i, h => by simp at h
 | c + 1, i, h => by
  rw [List.replicate_succ, List.flatten_cons]
  rcases Nat.lt_or_ge i l.length with hi | hi
  ·rw [List.getElem?_append_left hi, Nat.mod_eq_of_lt hi]
  ·rw [Nat.add_mul] at h
   rw [List.getElem?_append_right hi, rK l hl c (i - l.length) (by omega)]
   congr 1
   conv => rhs; rw [show i = i - l.length + l.length by omega, Nat.add_mod_right]
theorem gh {α : Type} (l : List α) : ∀ (c : Nat), (List.replicate c l).flatten.length = c * l.length
 | 0 => by simp
 | c + 1 => by rw [List.replicate_succ, List.flatten_cons, List.length_append, gh l c, Nat.add_mul]; omega
theorem og {α : Type} {l : List α} {c : Nat} {x : α} (h : x ∈ (List.replicate c l).flatten) : x ∈ l := by
 obtain ⟨q, hq, hx⟩ := List.mem_flatten.1 h
 rw [(List.mem_replicate.1 hq).2] at hx; exact hx
theorem rL {o : Oper} {K : List AV → AH → Prop} {Q : Exit → Act → World → Prop} {t e : TypeId} {x y : Operand} {x' y' : Opd} {i : TypeInfo} {z : Value} {cs : List AV} (hop : o.op = .makeSlice t x y) (ht : P.underlying t = some (.slice e))
  (hx : aB x = some x') (hy : aB y = some y') (hi : P.info? e = some i) (hz : i.zero = some z) (hl : litC z = some cs) (hsz : cs.length = i.size) (hs : SR ds w0 g n σ h a w)
  {v : AV} {h' : AH} (hk : rG i.bytes cs h (ag σ x') (ag σ y') = some (v, h')) (hK : K (putA σ o.dst v) h') : o.wp P a w (bI ds w0 g n w K) Q := by
 have vx := ai (a := a) hs.inv.gl hs.vl hx
 have vy := ai (a := a) hs.inv.gl hs.vl hy
 generalize ag σ x' = p at *
 generalize ag σ y' = q at *
 cases p <;> cases q <;> simp only [rG] at hk <;> try (cases hk; done)
 rename_i k1 l k2 c
 split at hk <;> try (cases hk; done)
 rename_i hc
 obtain ⟨h0, h1, h2, h3⟩ := hc
 simp only [Option.some.injEq, Prod.mk.injEq] at hk
 obtain ⟨rfl, rfl⟩ := hk
 simp only [VR] at vx vy
 obtain ⟨q1, q2, q3⟩ := oO (g := g) hl
 have hb : (i.bytes : Int) * c ≤ 281474976710656 := by rw [Int.mul_comm]; omega
 have hrun := run_make (P := P) w t e i z ht hi hz k1 k2 l c h0 h1 hb h3
 have hzl := VL.length q1
 have hsz' : z.cells.size = i.size := by rw [← hsz, ← hzl, Array.length_toList]
 have hVL : VL g (List.replicate c.toNat cs).flatten (madeCells z.cells (c.toNat * i.size)).toList := by
  refine VL.of_get (by rw [Array.length_toList, size_madeCells, gh, hsz]) fun j v hj => ?_
  have hjl := (List.getElem?_eq_some_iff.1 hj).1
  rw [gh] at hjl
  have hpos : 0 < cs.length := by
   rcases Nat.eq_zero_or_pos cs.length with h | h
   ·rw [h] at hjl; omega
   ·exact h
  rw [rK cs hpos _ _ hjl] at hj
  obtain ⟨u, hu, hv⟩ := VL.get q1 hj
  refine ⟨u, ?_, hv⟩
  rw [hsz, ← hsz'] at hu
  have hu' : z.cells[j % z.cells.size]? = some u := by simpa using hu
  have hm := (Array.getElem?_eq_some_iff.1 hu')
  obtain ⟨hm1, hm2⟩ := hm
  rw [hsz] at hjl
  simp only [madeCells, Array.toList_map, Array.toList_range, List.getElem?_map, List.getElem?_range hjl, Option.map_some, Option.some.injEq]
  rw [getElem!_pos z.cells _ hm1]; exact hm2
 have hcl : clL (List.replicate c.toNat cs).flatten = true := by
  have : ∀ l : List AV, (∀ x ∈ l, x.cl = true) → clL l = true := by
   intro l
   induction l with
   | nil => intro _; rfl
   | cons x l ih => intro hx; simp only [clL, Bool.and_eq_true]; exact ⟨hx x (by simp), ih fun y hy => hx y (by simp [hy])⟩
  exact this _ fun x hx => ns q2 x (og hx)
 have hon : aM (List.replicate c.toNat cs).flatten = true := iz fun x hx => fw q3 x (og hx)
 have hle : g.le (g.addBox h.length w.heap.size) := Gh.le_addBox hs.inv.bx_none
 have hp : ∀ B p, B ≠ w.heap.size → (g.addBox h.length w.heap.size).prot B p = g.prot B p := fun _ _ _ => rfl
 have hi' := hs.inv.allocBox (n' := fun B => n B + tkL σ a.tmps.toList B) e hVL hon (lM hcl) (fun B => by rw [mo hcl]; omega)
 simp only [Array.toArray_toList] at hi'
 have hk' : Keep n g w (g.addBox h.length w.heap.size) (w.alloc (.cells (madeCells z.cells (c.toNat * i.size)) e)) := (hs.inv.keepAlloc _ hp).le fun B => by omega
 have hs' : SR ds w0 (g.addBox h.length w.heap.size) n σ (h ++ [.cells (List.replicate c.toNat cs).flatten]) a (w.alloc (.cells (madeCells z.cells (c.toNat * i.size)) e)) :=
  ⟨VL.mono hle _ _ hs.vl, OVL.alloc hs.inv _ hp hs.vl hs.ov, hi', hs.df⟩
 refine fx (u := .slice (some ⟨w.heap.size, 0, none⟩) l.toNat c.toNat) ?_ hle hk' (hs'.put o.dst (v := .bs h.length 0 l.toNat (some c.toNat)) ?_ rfl) hK
 ·simp [execOp, hop, vx, vy, hrun]
 ·exact ⟨w.heap.size, c.toNat, 0, by simp [Gh.addBox], rfl, by omega, fun _ hc => by cases hc; rfl, fun _ => rfl⟩
theorem zG {g : Gh} {cs : List AV} {us : List Value} (h : VL g cs us) : ∀ c, VL g (List.replicate c cs).flatten (List.replicate c us).flatten
 | 0 => by simp [VL]
 | c + 1 => by rw [List.replicate_succ, List.replicate_succ, List.flatten_cons, List.flatten_cons]; exact VL.append h (zG h c)
theorem nY (z : Array Value) (n : Nat) : (Builtin.zeroCells z n).toList = (List.replicate n z.toList).flatten := by
 apply List.ext_getElem?
 intro j
 rcases Nat.lt_or_ge j (n * z.size) with hj | hj
 ·have hpos : 0 < z.toList.length := by
   rcases Nat.eq_zero_or_pos z.size with h | h
   ·rw [h] at hj; omega
   ·simpa using h
  rw [rK z.toList hpos n j (by simpa using hj)]
  have hm : j % z.size < z.size := Nat.mod_lt _ (by simpa using hpos)
  simp only [Builtin.zeroCells, Array.toList_map, Array.toList_range, List.getElem?_map, List.getElem?_range hj, Option.map_some, Array.length_toList]
  rw [getElem!_pos z _ hm, Array.getElem?_toList, Array.getElem?_eq_getElem hm]
 ·rw [List.getElem?_eq_none (by simpa [Builtin.zeroCells] using hj), List.getElem?_eq_none (by rw [gh]; simpa using hj)]
theorem zH {o : Oper} {K : List AV → AH → Prop} {Q : Exit → Act → World → Prop} {t e : TypeId} {x : Operand} {x' : Opd} {i : TypeInfo} {z : Value} {zs : List AV} (hop : o.op = .call ⟨.builtin .clear, #[x], #[t]⟩) (hd : o.dst = none)
  (ht : P.underlying t = some (.slice e)) (hx : aB x = some x') (hi : P.info? e = some i) (hz : i.zero = some z) (hl : litC z = some zs) (hs : SR ds w0 g n σ h a w)
  {h' : AH} (hk : clrV zs h (ag σ x') = some h') (hK : K σ h') : o.wp P a w (bI ds w0 g n w K) Q := by
 have vx := ai (a := a) hs.inv.gl hs.vl hx
 generalize ag σ x' = p at *
 cases p <;> simp only [clrV] at hk <;> try (cases hk; done)
 rename_i id off len cap
 simp only [Option.map_eq_some_iff] at hk
 obtain ⟨b, hb, rfl⟩ := hk
 cases hc : h[id]? with
 | none => rw [hc] at hb; cases hb
 | some bx =>
 rw [hc] at hb
 cases bx <;> simp only [clrB] at hb <;> try (cases hb; done)
 rename_i cs
 split at hb <;> cases hb
 rename_i hle
 simp only [VR] at vx
 obtain ⟨B, C, of, hB, hxe, hC, _, hof⟩ := vx
 have hzv : ∀ w : World, (zeroValue e).run P w = .ok z w := fun w => by simp [zeroValue, typeInfo, hi, hz]
 obtain ⟨q1, q2, q3⟩ := oO (g := g) hl
 rcases Nat.eq_zero_or_pos len with h0 | h0
 ·subst h0
  have hsame : h.set id (.cells (ovl cs off (List.replicate 0 zs).flatten)) = h := by
   have : ovl cs off (List.replicate 0 zs).flatten = cs := by simp [ovl]
   rw [this]
   apply List.ext_getElem?
   intro j
   by_cases hj : j = id
   ·subst hj; rw [List.getElem?_set_self (List.getElem?_eq_some_iff.1 hc).1, hc]
   ·rw [List.getElem?_set_ne (by omega)]
  rw [hsame] at hK
  refine fx (w' := w) (g' := g) (u := .tuple #[]) ?_ (Gh.le.refl g) (Keep.refl _ _ _) (by rw [hd]; exact ⟨hs.vl, hs.ov, hs.inv, hs.df⟩) hK
  simp [execOp, hop, resolve, invoke, builtin, Builtin.clear_, hxe, run_underlying ht]
 ·obtain rfl := hof (by omega)
  obtain ⟨vs, el, ex, b1, b2, b3, b4, b5, b6⟩ := hs.inv.boxOf hc hB
  have hl2 := VL.length b3
  have hzl := VL.length q1
  have hfl : ((List.replicate len z.cells.toList).flatten).length = len * zs.length := by rw [gh, hzl]
  have hVz : VL g (List.replicate len zs).flatten (List.replicate len z.cells.toList).flatten := zG q1 len
  have hon : aM (List.replicate len zs).flatten = true := iz fun x hx => fw q3 x (og hx)
  have hcl : clL (List.replicate len zs).flatten = true := by
   have : ∀ l : List AV, (∀ x ∈ l, x.cl = true) → clL l = true := by
    intro l
    induction l with
    | nil => intro _; rfl
    | cons x l ih => intro hx; simp only [clL, Bool.and_eq_true]; exact ⟨hx x (by simp), ih fun y hy => hx y (by simp [hy])⟩
   exact this _ fun x hx => ns q2 x (og hx)
  have hrun := run_storeCells_at P B of el (List.replicate len z.cells.toList).flatten 0 (vs ++ ex).toArray w b2 (by rw [hfl]; simp; omega) (hVz.ones hon)
  have hoe : ovl (vs ++ ex) of (List.replicate len z.cells.toList).flatten = ovl vs of (List.replicate len z.cells.toList).flatten ++ ex := by
   unfold ovl
   rw [List.take_append_of_le_length (by omega), List.drop_append_of_le_length (by omega)]
   simp only [List.append_assoc]
  have htok : ∀ b, 0 < n b + tkL σ a.tmps.toList b → b < w.heap.size ∧ ∀ i x, h[i]? = some x → x ≠ .dead → g.bx i ≠ some b := by
   intro b hb
   exact hs.inv.tokp b (by omega)
  obtain ⟨i1, i2, i3⟩ := hs.inv.storeBox (n' := fun b => n b + tkL σ a.tmps.toList b) hc hB hl2 b2 (zc b3 hVz of) (rv b4 hon of) (zd b3 hVz b5 (lM hcl) of)
   (fun b => by have := EU b3 hVz of b; rw [mo hcl] at this; omega) htok
  refine fx (w' := w.setRow B (ovl vs of (List.replicate len z.cells.toList).flatten ++ ex).toArray) (g' := g) (u := .tuple #[]) ?_ (Gh.le.refl g) (i2.le fun B => by omega) (by rw [hd]; exact ⟨hs.vl, i3 _ _ hs.vl hs.ov, i1, hs.df⟩) hK
  obtain ⟨m, rfl⟩ : ∃ m, len = m + 1 := ⟨len - 1, by omega⟩
  rw [← hoe]
  simp only [Nat.add_zero, List.toList_toArray] at hrun
  simp [execOp, hop, resolve, invoke, builtin, Builtin.clear_, hxe, run_underlying ht, hzv, nY, hrun, ovl]
theorem qb {o : Oper} {cl : Call} {c : COp} {mv : Bool} (hc : rH P mv cl = some c) (hop : o.op = .call cl) {K : List AV → AH → Prop} {Q : Exit → Act → World → Prop} (hs : SR ds w0 g n σ h a w) (hk : Wop P c o.dst σ h K) : o.wp P a w (bI ds w0 g n w K) Q := by
 obtain ⟨callee, args, ts⟩ := cl
 unfold rH at hc
 simp only at hc
 split at hc
 ·generalize hl1 : args.toList = l1 at hc
  generalize hl2 : ts.toList = l2 at hc
  unfold zA at hc
  split at hc <;> try (cases hc; done)
  rename_i x t
  have ha := arr1 hl1
  have ht := arr1 hl2
  subst ha ht
  split at hc <;> cases hc
  ·rename_i y h1 h2
   obtain ⟨v, hv, hk⟩ := bl hk
   have vx := ai (a := a) hs.inv.gl hs.vl h2
   generalize ag σ y = p at *
   cases p <;> simp only [CJ] at hv <;> cases hv
   exact cO hs (s := Builtin.len_ #[t] o.type #[a.eval x]) (by simp [execOp, hop, resolve, invoke, builtin]) (tv (K := fun v => K (putA σ o.dst v) h) (.inr h1) vx h1 hk)
  ·rename_i e y h1 h2
   obtain ⟨v, hv, hk⟩ := bl hk
   have vx := ai (a := a) hs.inv.gl hs.vl h2
   generalize ag σ y = p at *
   cases p <;> simp only [yt] at hv <;> cases hv
   ·exact cO hs (s := Builtin.len_ #[t] o.type #[a.eval x]) (by simp [execOp, hop, resolve, invoke, builtin]) (tv (K := fun v => K (putA σ o.dst v) h) (.inl ⟨e, h1⟩) vx ⟨e, h1⟩ hk)
   ·exact cO hs (s := Builtin.len_ #[t] o.type #[a.eval x]) (by simp [execOp, hop, resolve, invoke, builtin]) (IY (K := fun v => K (putA σ o.dst v) h) h1 vx hk)
  ·rename_i kt et y h1 h2
   obtain ⟨v, hv, hk⟩ := bl hk
   exact cO hs (s := Builtin.len_ #[t] o.type #[a.eval x]) (by simp [execOp, hop, resolve, invoke, builtin]) (yo (K := fun v => K (putA σ o.dst v) h) hs.inv h1 (ai (a := a) hs.inv.gl hs.vl h2) hv hk)
 ·generalize hl1 : args.toList = l1 at hc
  generalize hl2 : ts.toList = l2 at hc
  unfold zB at hc
  split at hc <;> try (cases hc; done)
  rename_i x y t u
  have ha := arr2 hl1
  have ht := arr2 hl2
  subst ha ht
  split at hc <;> try (cases hc; done)
  rename_i e d x' y' h1 h2 h3 h4
  split at hc <;> try (cases hc; done)
  rename_i i hi
  split at hc <;> try (cases hc; done)
  rename_i z hz
  split at hc <;> try (cases hc; done)
  rename_i hzz
  have vy := ai (a := a) hs.inv.gl hs.vl h4
  have vx := ai (a := a) hs.inv.gl hs.vl h3
  have key : ∀ {str : Bool} {r : Up × AH}, xop (.append i.size i.bytes str x' y') o.dst (ag σ) h = some r → K (putL σ r.1) r.2 → ∃ m es fs, (da σ x').1 = .sl m es ∧ rF str (ag σ y') = some fs ∧ (fs ≠ [] → m ≠ .sh) ∧ (∀ q ∈ es, q.length = i.size) ∧ szOK i.size fs = true ∧
    (es.length + fs.length) * i.bytes ≤ 140737488355328 ∧ es.length + fs.length ≤ 9223372036854775807 ∧ K (putA (da σ x').2 o.dst (ib m es fs)) h := by
   intro str r hr hk
   simp only [xop, Option.map_eq_some_iff] at hr
   obtain ⟨v, hv, rfl⟩ := hr
   rw [dL, iT, aE] at hk
   rw [lV]
   generalize ag σ x' = p at *
   generalize rF str (ag σ y') = q at *
   unfold appV at hv
   split at hv <;> try (cases hv; done)
   rename_i m es fs
   split at hv <;> cases hv
   rename_i hcc
   exact ⟨m, es, fs, rfl, rfl, hcc.1, rI vx hcc.2.1, hcc.2.2.1, hcc.2.2.2.1, hcc.2.2.2.2, hk⟩
  split at hc <;> cases hc
  ·obtain ⟨r, hr, hk⟩ := hk
   obtain ⟨m, es, fs, q1, q2, p1, p2, p3, p4, p5, hK⟩ := key hr hk
   generalize ag σ y' = q at *
   cases q <;> simp [rF] at q2
   rename_i s
   subst q2
   simp only [VR] at vy
   obtain ⟨us, hn⟩ := News.of_str (P := P) (w := w) (s := s) (g := g)
   have hS1 : s.data.toList.map encB = [] ∨ i.size = 1 := by
    cases e : s.data.toList with
    | nil => exact .inl rfl
    | cons b bs => right; rw [e] at p3; simp [szOK, encB] at p3; exact p3.symm
   rw [← vy] at hn
   rcases hS1 with h0 | hS1
   ·rw [h0] at hn
    obtain ⟨k1, k2, k3, k4, k5, k6, k7⟩ := hn
    have hus : us = [] := List.eq_nil_of_length_eq_zero (by rw [k5]; simp)
    subst hus
    have hn' : News P g w i.size (a.eval y) [] [] := by
     refine ⟨k1, ?_, ?_, by simp, by simp, by simp, k7⟩
     ·rw [vy]; simp [Builtin.firstCells]
     ·rw [vy]; simp [Builtin.firstCells]
    rw [h0] at p1 p4 p5 hK
    exact j6 hop h3 h1 h2 (.inl rfl) hi hz hzz.1 hzz.2 hs q1 hn' p1 p2 p4 p5 hK
   ·rw [← hS1] at hn
    exact j6 hop h3 h1 h2 (.inl rfl) hi hz hzz.1 hzz.2 hs q1 hn p1 p2 p4 p5 hK
  ·rename_i e'
   obtain ⟨r, hr, hk⟩ := hk
   obtain ⟨m, es, fs, q1, q2, p1, p2, p3, p4, p5, hK⟩ := key hr hk
   generalize ag σ y' = q at *
   cases q <;> simp [rF] at q2
   subst q2
   obtain ⟨us, hn⟩ := News.of_slice (P := P) hs.inv vy (rI vy p3)
   exact j6 hop h3 h1 h2 (.inr ⟨e', rfl⟩) hi hz hzz.1 hzz.2 hs q1 hn p1 p2 p4 p5 hK
 ·exact nP (mx := false) hc hop hs (by
   unfold qK at hc; split at hc <;> try (cases hc; done)
   split at hc <;> cases hc; exact hk)
 ·exact nP (mx := true) hc hop hs (by
   unfold qK at hc; split at hc <;> try (cases hc; done)
   split at hc <;> cases hc; exact hk)
 ·generalize hl1 : args.toList = l1 at hc
  generalize hl2 : ts.toList = l2 at hc
  unfold zD at hc
  split at hc <;> try (cases hc; done)
  rename_i x t
  have ha := arr1 hl1
  have ht := arr1 hl2
  subst ha ht
  split at hc <;> try (cases hc; done)
  rename_i e y h1 h2
  split at hc <;> try (cases hc; done)
  rename_i i hi
  split at hc <;> try (cases hc; done)
  rename_i z hz
  split at hc <;> cases hc
  rename_i zs hzs
  obtain ⟨r, hr, hk⟩ := hk
  simp only [xop] at hr
  split at hr <;> try (cases hr; done)
  rename_i hdst
  simp only [Option.map_eq_some_iff] at hr
  obtain ⟨h', hv, rfl⟩ := hr
  exact zH hop hdst h1 h2 hi hz hzs hs hv hk
 ·rename_i f
  split at hc <;> cases hc
  rename_i l hl
  have hk : eU P f (shL (l.map (ag σ))) h (fun r h' => K (putA σ o.dst r) h') := by
   cases mv
   ·obtain ⟨f', args', p, hcall, hk⟩ := hk
    simp only [Bool.false_eq_true, if_false, bZ, Option.some.injEq, Prod.mk.injEq] at hcall
    obtain ⟨rfl, rfl, rfl⟩ := hcall
    simp only [aE] at hk
    exact hk
   ·obtain ⟨f', args', p, hcall, hk⟩ := hk
    simp only [if_true, bZ, Option.some.injEq, Prod.mk.injEq] at hcall
    obtain ⟨rfl, rfl, rfl⟩ := hcall
    simp only [aE] at hk
    exact qL hk.1 hk.2
  refine zF hs (fun fn h1 h2 h3 => ?_) (VL.shl (rJ hs.inv.gl hs.vl hl)) (j5 _) hk
  have e : (List.map a.eval args.toList).toArray = args.map a.eval := by apply Array.ext'; simp
  rw [vD hop h1 h2 h3, e]
 ·rename_i t
  split at hc <;> cases hc
  rename_i l hl
  obtain ⟨f', args', p, hcall, hk⟩ := hk
  simp only [bZ] at hcall
  split at hcall <;> cases hcall
  rename_i f x1 y1 hfv
  simp only [aE] at hk
  have vx := ai (a := a) hs.inv.gl hs.vl (x := .tmp t) rfl
  rw [hfv] at vx
  obtain ⟨xs, ys, he, v1, v2, c1, c2⟩ := vx
  refine zF hs (fun fn h1 h2 h3 => ?_) (VL.shl (VL.append (VL.append v1 (rJ hs.inv.gl hs.vl hl)) v2)) (j5 _) hk
  have e : (xs.toList ++ List.map a.eval args.toList ++ ys.toList).toArray = xs ++ args.map a.eval ++ ys := by apply Array.ext'; simp
  rw [tH hop he h1 h2 h3, e]
 ·cases hc
end
end Go.Proofs.YtibchilpaaiecaaGreatDoor.M
