/- slices.Clone: a comparison with nil that the machine can't decide, both ways walked. -/
import Derived.Test.YtibchilpaaiecaaGreatDoorM17
set_option linter.all false
namespace Go.Proofs.YtibchilpaaiecaaGreatDoor.M
open Go.RowKit
section
variable {P : Program} {w0 w : World} {ds : List Deferred} {g : Gh} {h : AH} {n : Nat → Nat} {σ : List AV} {a : Act}
theorem n3 {id : Nat} {o1 o2 : Oper} {t u e : TypeId} {es : List (List AV)} (h1 : o1.op = .move (.tmp 0)) (g1 : o1.guard = none) (d1 : o1.dst = some 3)
  (h2 : o2.op = .binOp .eql t (.tmp 3) (.const (.slice none 0 0)) u) (g2 : o2.guard = none) (d2 : o2.dst = some 4) (ht : P.underlying t = some (.slice e))
  (hs : SR ds w0 g n σ h a w) (h0 : ag σ (.tmp 0) = .sl .sh es) (h3 : ag (putA σ (some 3) (.sl .sh es)) (.tmp 3) = .sl .sh es) {Q : Ex → List AV → AH → Prop} (hQ : ∀ b, (b = true → es = []) → Q .normal (putA (putA σ (some 3) (.sl .sh es)) (some 4) (.bool b)) h) :
  (Code.region id #[o1, o2] false).wp P (Post ds w0 g n w Q) a w := by
 refine wp_region_list ?_
 have w1 : ∀ y, Region.wanted o1 y = true := fun y => by simp [Region.wanted, g1]
 have w2 : ∀ y, Region.wanted o2 y = true := fun y => by simp [Region.wanted, g2]
 simp only [wpList, w1, w2, if_true]
 left
 have hm : Wop P (.mov (.tmp 0)) o1.dst σ h (fun σ' h' => σ' = putA σ (some 3) (.sl .sh es) ∧ h' = h) := by
  unfold Wop Wu
  simp only [fk, Bool.false_eq_true, if_false]
  refine ⟨_, rfl, ?_, rfl⟩
  rw [aE, d1, h0]; rfl
 refine Oper.wp_mono ?_ (iB (mv := false) (Q := Post ds w0 g n w Q) (by rw [h1]; rfl) hs hm)
 rintro a1 wb ⟨g1', σ1, h1', ⟨rfl, rfl⟩, lg1, k1, s1⟩
 left
 refine Oper.wp_mono ?_ (gg (K := fun σ' h' => Q .normal σ' h' ) (neg := false) (d := .slice e) (.inl h2) rfl (x' := .tmp 3) rfl ht rfl s1 (by rw [h3]; rfl) (by
  intro b hb
  rw [h3] at hb
  have := hQ b hb
  rw [d2]
  cases b <;> exact this))
 rintro a2 w2 ⟨g2', σ2, h2', q, lg2, k2, s2⟩
 exact ⟨.normal, g2', σ2, h2', rfl, q, lg1.trans lg2, k1.trans k2, s2⟩
def qR (S bytes : Nat) : List AV → AH → Option (AV × AH)
 | [.sl _ es], h => if szOK S es = true ∧ es.length * bytes ≤ 140737488355328 ∧ es.length ≤ 9223372036854775807 then some (ow es, h) else none
 | _, _ => none
theorem GY {T : Tbl} (hT : ∀ f d, T f = some d → cW P f d) {c : CC} {σ : List AV} {h : AH} {e : Ex} {σ' : List AV} {h' : AH} (hd : den T c σ h = some (e, σ', h')) {Q : Ex → List AV → AH → Prop} (hQ : Q e σ' h') : W P c σ h Q := by
 have H : ∃ m r, ev T m c σ h = some r := by
  by_cases H : ∃ m r, ev T m c σ h = some r
  ·exact H
  ·unfold den at hd; rw [dif_neg H] at hd; cases hd
 obtain ⟨m, r, hr⟩ := H
 have := tV hr
 rw [hd] at this; cases this
 exact mO hT m _ _ _ _ _ _ _ hr hQ
def noT : Tbl := fun _ => none
theorem Ac : ∀ f d, noT f = some d → cW P f d := fun f d h => by cases h
theorem ou {S bytes : Nat} {f : FuncId} {fn : Func} {c0 X B : Code} {id : Nat} {o1 o2 : Oper} {t u e : TypeId} {hs0 hs1 hs2 hs3 hs4 hs5 : HL}
  (hf : P.funcs[f]? = some fn) (hb : fn.body = some (.seq c0 (.seq (.seq (.region id #[o1, o2] false) (.cond (.tmp 4) X .skip)) B))) (hname : (fn.name == "runtime.NumGoroutine") = false) (hn : fn.ntmps = 8)
  (hr : fn.results.toList.mapM (lO P) = some [.tmp 2]) (h1 : o1.op = .move (.tmp 0)) (g1 : o1.guard = none) (d1 : o1.dst = some 3)
  (h2 : o2.op = .binOp .eql t (.tmp 3) (.const (.slice none 0 0)) u) (g2 : o2.guard = none) (d2 : o2.dst = some 4) (ht : P.underlying t = some (.slice e))
  (c0c : cA P c0 hs0 = some (.region [⟨some 2, .take (.con (.sl .ex [])), none⟩], hs1)) (cX : cA P X hs2 = some (.seq (.region [⟨some 2, .take (.con (.sl .ex [])), none⟩]) .ret, hs3))
  (cB : cA P B hs4 = some (.seq (.region [⟨some 5, .bslice S false [], none⟩, ⟨some 6, .take (.tmp 0), none⟩, ⟨some 7, .append S bytes false (.tmp 5) (.tmp 6), none⟩, ⟨some 2, .take (.tmp 7), none⟩]) .ret, hs5)) (n0 : noRF c0 = true := by rfl) (nX : noRF X = true := by rfl) (nB : noRF B = true := by rfl) :
  cW P f (.prim (qR S bytes)) := by
 intro args h r h' hp K hK
 unfold qR at hp
 split at hp <;> try (cases hp; done)
 rename_i m es
 split at hp <;> cases hp
 rename_i hc
 refine ⟨⟨fn, hf, by simp [hb], hname⟩, ?_, _, _, hK⟩
 -- the argument, shared
 have key : Spec P f [.sl .sh es] h K := by
  refine yE hf hb hr fun w0 g n a w hs => ?_
  rw [hn] at hs
  refine wp_seq (wp_mono (eP n0 c0c hs (GY (T := noT) Ac (e := .normal) (σ' := [.sl .sh es, aa, .sl .ex [], aa, aa, aa, aa, aa]) (h' := h) (by simp only [List.length_cons, List.length_nil]; simp -implicitDefEqProofs (disch := (refine ab ?_; first | assumption | omega | (simp [go_sem] <;> omega) | with_unfolding_all rfl | decide)) only [go_sem, Nat.reduceAdd, Nat.reduceSub, reduceIte, reduceCtorEq]) (Q := fun e σ h' => e = .normal ∧ σ = [.sl .sh es, aa, .sl .ex [], aa, aa, aa, aa, aa] ∧ h' = h) ⟨rfl, rfl, rfl⟩)) ?_)
  rintro e a1 w1 ⟨x1, g1', σ1, h1', rfl, ⟨rfl, rfl, rfl⟩, lg1, k1, s1⟩
  refine wp_seq (wp_seq (wp_mono (n3 h1 g1 d1 h2 g2 d2 ht s1 (es := es) rfl rfl (Q := fun e σ h' => e = .normal ∧ (∃ b, (b = true → es = []) ∧ σ = [.sl .sh es, aa, .sl .ex [], .sl .sh es, .bool b, aa, aa, aa]) ∧ h' = h1') fun b hb => ⟨rfl, ⟨b, hb, rfl⟩, rfl⟩) ?_))
  rintro e a2 w2 ⟨x2, g2', σ2, h2', rfl, ⟨rfl, ⟨b, hb', rfl⟩, rfl⟩, lg2, k2, s2⟩
  have vc : a2.eval (.tmp 4) = .bool b := by
   have := ai (x := .tmp 4) (y := .tmp 4) s2.inv.gl s2.vl rfl
   have e4 : ag [.sl .sh es, aa, .sl .ex [], .sl .sh es, .bool b, aa, aa, aa] (.tmp 4) = .bool b := rfl
   rw [e4] at this
   simpa only [VR] using this
  cases b with
  | true =>
   obtain rfl := hb' rfl
   refine wp_cond_true vc (wp_mono (eP nX cX s2 (GY (T := noT) Ac (e := .ret) (σ' := [.sl .sh [], aa, .sl .ex [], .sl .sh [], .bool true, aa, aa, aa]) (h' := h2') (by simp -implicitDefEqProofs (disch := (refine ab ?_; first | assumption | omega | (simp [go_sem] <;> omega) | with_unfolding_all rfl | decide)) only [go_sem, Nat.reduceAdd, Nat.reduceSub, reduceIte, reduceCtorEq]) (Q := fun e σ h' => e = .ret ∧ σ = [.sl .sh [], aa, .sl .ex [], .sl .sh [], .bool true, aa, aa, aa] ∧ h' = h2') ⟨rfl, rfl, rfl⟩)) ?_)
   rintro e a3 w3 ⟨x3, g3', σ3, h3', rfl, ⟨rfl, rfl, rfl⟩, lg3, k3, s3⟩
   exact ⟨.ret, g3', _, _, rfl, ⟨trivial, [ow []], rfl, hK⟩, (lg1.trans lg2).trans lg3, (k1.trans k2).trans k3, s3⟩
  | false =>
   refine wp_cond_false vc (wp_skip ?_)
   obtain ⟨q1, q2, q3⟩ := hc
   have hap : appV S bytes (ow []) (some es) = some (ow es) := by
    have := E5 (S := S) (bytes := bytes) (l := []) (fs := es) rfl q1 (by simpa using q2) (by simpa using q3)
    simpa using this
   refine wp_mono (eP nB cB s2 (GY (T := noT) Ac (e := .ret) (σ' := [.sl .sh es, aa, ow es, .sl .sh es, .bool false, .sl .sh [], .sl .sh es, .sl .sh es]) (h' := h2') (by simp -implicitDefEqProofs (disch := (refine ab ?_; first | assumption | omega | (simp [go_sem] <;> omega) | with_unfolding_all rfl | decide)) only [go_sem, Nat.reduceAdd, Nat.reduceSub, reduceIte, reduceCtorEq, hap]) (Q := fun e σ h' => e = .ret ∧ σ.getD 2 aa = ow es ∧ h' = h2') ⟨rfl, rfl, rfl⟩)) ?_
   rintro e a3 w3 ⟨x3, g3', σ3, h3', rfl, ⟨rfl, hσ, rfl⟩, lg3, k3, s3⟩
   exact ⟨.ret, g3', _, _, rfl, ⟨trivial, [ow es], by simp only [retV, hσ]; rfl, hK⟩, (lg1.trans lg2).trans lg3, (k1.trans k2).trans k3, s3⟩
 intro w0 g n w vs hv hcl hi
 have hv' : VL g [.sl .sh es] vs := by
  have := VL.sh _ _ hv
  simpa only [shL, AV.sh] using this
 exact key w0 g n w vs hv' rfl hi
end
theorem eG {T : Tbl} {f : FuncId} {p : List AV → AH → Option (AV × AH)} {args : List AV} {h : AH} (hT : T f = some (.prim p)) : run T f args h = p args h := by
 simp only [run, ji, hT]
end Go.Proofs.YtibchilpaaiecaaGreatDoor.M
