/- What a row's list of package variables, and an argument's reading, give. -/
import Derived.Test.YtibchilpaaiecaaGreatDoorRows
import Derived.Test.YtibchilpaaiecaaGreatDoorM20
import Derived.Test.YtibchilpaaiecaaGreatDoorG0
import Derived.Lib.LaidTab
set_option linter.all false
namespace Go.Proofs.YtibchilpaaiecaaGreatDoor.M
open Go.RowKit Go.ChangeShapes Go.WideShapes
section
variable {P : Program} {W : World}
theorem wh : ∀ {l : List (String × DataW Unit)} {ps : List MemPlace}, DataW.LaidVars P W l ps → ∀ {n : String} {d : DataW Unit}, (n, d) ∈ l →
  ∃ g t cs fuel p, P.globalNamed n = some g ∧ (P.globals[g]?).map (·.type) = some t ∧ W.var? P n = some cs ∧ DataW.trod (fun _ => ()) P W 0 (fun _ => true) false fuel t cs.toList = some (d, p)
 | [], _, _, n, d, hm => by cases hm
 | (m, e) :: l, ps, h, n, d, hm => by
  obtain ⟨g, t, cs, fuel, p, q, h1, h2, h3, h4, h5, h6⟩ := h
  rcases List.mem_cons.1 hm with he | hm
  ·cases he; exact ⟨g, t, cs, fuel, p, h1, h2, h3, h4⟩
  ·exact wh h5 hm
theorem pY {n : String} {g : Nat} {cs : Array Value} (h : W.var? P n = some cs) (hg : P.globalNamed n = some g) : ∃ el fr, W.heap[g]? = some (.cells cs el fr) := by
 unfold World.var? at h
 rw [hg, Option.bind_some] at h
 split at h <;> cases h
 rename_i el fr hh
 exact ⟨el, fr, hh⟩
theorem EO {l : List (String × DataW Unit)} {n : String} {k : IntKind} {zs : List Int} {g t e m : Nat} (h : laidMet P l W) (hm : (n, Lib.tabData k zs) ∈ l) (hg : P.globalNamed n = some g) (ht0 : (P.globals[g]?).map (·.type) = some t) (ht : P.underlying t = some (.array m e)) (he : P.underlying e = some (.int k))
  (hce : P.cellsOf e = 1) (hct : P.cellsOf t = m) : ∃ el fr, W.heap[g]? = some (.cells (zs.map (Value.int k)).toArray el fr) := by
 obtain ⟨ps, hv, _⟩ := h
 obtain ⟨g', t', cs, fuel, p, h1, h2, h3, h4⟩ := wh hv hm
 obtain rfl := Option.some.inj (hg.symm.trans h1)
 obtain rfl := Option.some.inj (ht0.symm.trans h2)
 have hc := Lib.cells_of_tab ht he hce hct h4
 obtain ⟨el, fr, hh⟩ := pY h3 hg
 refine ⟨el, fr, ?_⟩
 rw [hh, ← hc]
theorem rm {l : List (String × DataW Unit)} {n : String} {u : String} {d : DataW Unit} {g t : Nat} {ms : Array String} (h : laidMet P l W) (hm : (n, .iface u d) ∈ l) (hg : P.globalNamed n = some g) (ht0 : (P.globals[g]?).map (·.type) = some t) (ht : ∃ x, P.underlying t = some (.interface x)) :
  ∃ tp q el fr, W.heap[g]? = some (.cells #[.iface tp q] el fr) := by
 obtain ⟨ps, hv, _⟩ := h
 obtain ⟨g', t', cs, fuel, p, h1, h2, h3, h4⟩ := wh hv hm
 obtain rfl := Option.some.inj (hg.symm.trans h1)
 obtain rfl := Option.some.inj (ht0.symm.trans h2)
 obtain ⟨x, ht⟩ := ht
 obtain ⟨el, fr, hh⟩ := pY h3 hg
 have : ∃ tp q, cs.toList = [.iface tp q] := by
  cases fuel with
  | zero => simp [DataW.trod] at h4
  | succ f =>
   unfold DataW.trod at h4
   rw [ht] at h4
   generalize cs.toList = cl at h4
   split at h4 <;> first | (rename_i heq1 heq2; exact ⟨_, _, rfl⟩) | simp_all
 obtain ⟨tp, q, hcl⟩ := this
 refine ⟨tp, q, el, fr, ?_⟩
 rw [hh]
 have : cs = #[.iface tp q] := Array.ext' hcl
 rw [this]
end
open Rows in
def RdB (P : Program) (w : World) (t : TypeId) (R : List AV → Nat → Prop) : Prop :=
 ∀ (H : Type) (enc : TypeId × Value → H) (fuel : Nat) (cs : List Value) (x : DataW H × List MemPlace), DataW.trod enc P w 0 (fun _ => true) true fuel t cs = some x →
  ∃ az, VL (gW w) az cs ∧ clL az = true ∧ aM az = true ∧ R az (Rows.uptoBulk x.1)
variable {P : Program} {w : World}
theorem EP {H : Type} (d : DataW H) : 1 ≤ Rows.uptoBulk d := by
 cases d with
 | lit l => cases l <;> simp [Rows.uptoBulk]
 | _ => simp [Rows.uptoBulk]
theorem uX {H : Type} {d : DataW H} {l : List (DataW H)} (h : d ∈ l) : Rows.uptoBulk d ≤ Rows.uptoBulkAll l := by
 induction l with
 | nil => cases h
 | cons x r ih =>
  simp only [Rows.uptoBulkAll]
  rcases List.mem_cons.1 h with rfl | e
  ·omega
  ·have := ih e; omega
theorem ER {H : Type} (l : List (DataW H)) : l.length ≤ Rows.uptoBulkAll l := by
 induction l with
 | nil => simp [Rows.uptoBulkAll]
 | cons x r ih => have := EP x; simp only [Rows.uptoBulkAll, List.length_cons]; omega
theorem RdB.mono {t : TypeId} {R R' : List AV → Nat → Prop} (h : RdB P w t R) (k : ∀ az b, R az b → R' az b) : RdB P w t R' := fun H enc fuel cs x hx =>
 let ⟨az, h1, h2, h3, h4⟩ := h H enc fuel cs x hx; ⟨az, h1, h2, h3, k _ _ h4⟩
theorem RdB.int {t : TypeId} {k : IntKind} (ht : P.underlying t = some (.int k)) : RdB P w t (fun az _ => ∃ n, az = [.int k n]) := by
 intro H enc fuel cs x h
 obtain ⟨n, rfl, _, hw⟩ := DataW.trod_int ht h
 exact ⟨[.int k n], by simp [VL, VR], by simp [clL, AV.cl], by simp [aM, AV.one], n, rfl⟩
theorem RdB.str {t : TypeId} (ht : P.underlying t = some .string) : RdB P w t (fun az b => ∃ s : List UInt8, az = [.str ⟨s.toArray⟩] ∧ s.length ≤ b) := by
 intro H enc fuel cs x h
 obtain ⟨s, rfl, hx, hs⟩ := DataW.trod_string ht h
 refine ⟨[.str s], by simp [VL, VR], by simp [clL, AV.cl], by simp [aM, AV.one], s.data.toList, ?_, ?_⟩
 ·simp
 ·rw [hx]; simp [Rows.uptoBulk]
theorem RdB.byte {t : TypeId} (ht : P.underlying t = some (.int .u8)) : RdB P w t (fun az _ => ∃ b : UInt8, az = encB b) := fun H enc fuel cs x h => by
 obtain ⟨az, h1, h2, h3, b, h4, _⟩ := Rd.byte ht H enc fuel cs x h
 exact ⟨az, h1, h2, h3, b, h4⟩
theorem RdB.slice {t e : TypeId} {S : Nat} (ht : P.underlying t = some (.slice e)) (hS : P.cellsOf e = S) (h0 : 0 < S) {R : List AV → Nat → Prop} (hmono : ∀ az b b', b ≤ b' → R az b → R az b') (he : RdB P w e R) :
  RdB P w t (fun az b => ∃ es : List (List AV), az = [.sl .sh es] ∧ es.length ≤ b ∧ ∀ x ∈ es, R x b) := by
 intro H enc fuel cs x h
 rcases DataW.trod_slice ht h with ⟨rfl, _⟩ | ⟨a, len, cap, elems, rest, n, _, rfl, hx, hb, hl, hm, hlen, hel, hsp, _⟩
 ·exact ⟨[.sl .sh []], by simp [VL, VR], by simp [clL, AV.cl], by simp [aM, AV.one], [], rfl, by simp, by simp⟩
 ·have hbk : ∀ y ∈ elems, Rows.uptoBulk y.1 ≤ Rows.uptoBulk x.1 := by
   intro y hy
   rw [hx]
   have := uX (l := elems.map (·.1)) (List.mem_map.2 ⟨y, hy, rfl⟩)
   simp only [Rows.uptoBulk]
   omega
  have hbl : elems.length ≤ Rows.uptoBulk x.1 := by
   rw [hx]
   have := ER (elems.map (·.1))
   simp only [Rows.uptoBulk, List.length_map] at this ⊢
   omega
  rcases Nat.eq_zero_or_pos cap with hc | hc
  ·subst hc
   obtain rfl : len = 0 := by omega
   exact ⟨[.sl .sh []], by simp [VL, VR], by simp [clL, AV.cl], by simp [aM, AV.one], [], rfl, by simp, by simp⟩
  ·rw [hS] at hel hsp
   have hspot : a.spot = none := by
    rcases Nat.eq_zero_or_pos len with hz | hz
    ·obtain ⟨hr, hr2⟩ := hsp rfl
     have := hr2 0 (by omega)
     rw [hz] at this
     have hrl : ∃ v, rest[0]? = some v := ⟨rest[0]'(by omega), by simp⟩
     obtain ⟨v, hv⟩ := hrl
     rw [hv, Option.bind_eq_some_iff] at this
     obtain ⟨cs', hcs, _⟩ := this
     have ha : a.add ((0 + 0) * S) = a := by simp [Addr.add]
     rw [ha] at hcs
     exact cells?_spot hcs h0
    ·have := hel 0 hz
     have hrl : ∃ v, elems[0]? = some v := ⟨elems[0]'(by omega), by simp⟩
     obtain ⟨v, hv⟩ := hrl
     rw [hv, Option.bind_eq_some_iff] at this
     obtain ⟨cs', hcs, _⟩ := this
     have ha : a.add (0 * S) = a := by simp [Addr.add]
     rw [ha] at hcs
     exact cells?_spot hcs h0
   obtain ⟨B, o, sp⟩ := a
   simp only at hspot
   subst hspot
   have key : ∀ k i, i + k = len → ∃ es : List (List AV), es.length = k ∧ (∀ z ∈ es, z.length = S ∧ R z (Rows.uptoBulk x.1)) ∧ PE (gW w) es B (o + i * S) := by
    intro k
    induction k with
    | zero => intro i _; exact ⟨[], rfl, by simp, by simp [PE]⟩
    | succ k ih =>
     intro i hi
     obtain ⟨es, e1, e2, e3⟩ := ih (i + 1) (by omega)
     have := hel i (by omega)
     have hil : i < elems.length := by omega
     rw [List.getElem?_eq_getElem hil, Option.bind_eq_some_iff] at this
     obtain ⟨cs', hcs, hx'⟩ := this
     obtain ⟨az, q1, q2, q3, q4⟩ := he H enc n cs' _ hx'
     have q4' := hmono _ _ _ (hbk _ (List.getElem_mem hil)) q4
     obtain ⟨g1, g2⟩ := cells?_get hcs
     have hal : az.length = S := by rw [← VL.length q1, g1]
     refine ⟨az :: es, by simp [e1], ?_, ?_⟩
     ·intro z hz'
      rcases List.mem_cons.1 hz' with rfl | hz'
      ·exact ⟨hal, q4'⟩
      ·exact e2 z hz'
     ·simp only [PE]
      refine ⟨PR.mk fun j c hj => ?_, ?_⟩
      ·obtain ⟨u, hu, hvr⟩ := VL.get q1 hj
       have hjS : j < S := by rw [← hal]; exact (List.getElem?_eq_some_iff.1 hj).1
       refine ⟨u, ?_, hvr, Ad q2 hj, hY q3 hj⟩
       have := g2 j hjS
       rw [hu, Go.WideShapes.add_plain, Go.WideShapes.add_plain] at this
       exact this
      ·rw [hal, Nat.add_assoc, ← Nat.succ_mul]
       exact e3
   obtain ⟨es, e1, e2, e3⟩ := key len 0 (by omega)
   refine ⟨[.sl .sh es], ?_, by simp [clL, AV.cl], by simp [aM, AV.one], es, rfl, by omega, fun z hz => (e2 z hz).2⟩
   simp only [VL, VR]
   refine ⟨_, _, rfl, .inr ⟨B, o, cap, by rw [e1], by omega, by simp, by simp, ?_, by simpa using e3⟩, rfl⟩
   intro z hz
   cases es with
   | nil => simp at hz
   | cons y ys => rw [(e2 z hz).1]; exact (e2 y (by simp)).1.symm
theorem RdB.slice' {α : Type} {enc : α → List AV} {Q : α → Nat → Prop} (hmono : ∀ a b b', b ≤ b' → Q a b → Q a b') {t e : TypeId} {S : Nat} (ht : P.underlying t = some (.slice e)) (hS : P.cellsOf e = S) (h0 : 0 < S)
  (he : RdB P w e (fun az b => ∃ a, az = enc a ∧ Q a b)) : RdB P w t (fun az b => ∃ l : List α, az = [.sl .sh (l.map enc)] ∧ l.length ≤ b ∧ ∀ a ∈ l, Q a b) :=
 (RdB.slice ht hS h0 (fun az b b' hb ⟨a, h1, h2⟩ => ⟨a, h1, hmono a b b' hb h2⟩) he).mono fun az b ⟨es, h1, h2, h3⟩ => by
  obtain ⟨l, rfl, hl⟩ := nD h3
  exact ⟨l, h1, by simpa using h2, hl⟩
def wi : List (List AV → Nat → Prop) → List AV → Nat → Prop
 | [], az, _ => az = []
 | R :: Rs, az, b => ∃ a1 a2 b1, az = a1 ++ a2 ∧ R a1 b1 ∧ b1 ≤ b ∧ wi Rs a2 b
def uY (P : Program) : Nat → List Field → Nat → Bool
 | o, [], m => o == m
 | o, f :: fs, m => (f.offset == o) && uY P (o + P.cellsOf f.type) fs m
def Cv (P : Program) (w : World) : List Field → List (List AV → Nat → Prop) → Prop
 | [], [] => True
 | f :: fs, R :: Rs => RdB P w f.type R ∧ Cv P w fs Rs
 | _, _ => False
theorem Cw : ∀ {a b : List AV}, clL a = true → clL b = true → clL (a ++ b) = true
 | [], b, _, h => h
 | x :: a, b, h, k => by simp only [clL, Bool.and_eq_true, List.cons_append] at h ⊢; exact ⟨h.1, Cw h.2 k⟩
theorem uZ : ∀ {a b : List AV}, aM a = true → aM b = true → aM (a ++ b) = true
 | [], b, _, h => h
 | x :: a, b, h, k => by simp only [aM, Bool.and_eq_true, List.cons_append] at h ⊢; exact ⟨h.1, uZ h.2 k⟩
theorem RdB.struct {t : TypeId} {fs : Array Field} {Rs : List (List AV → Nat → Prop)} (ht : P.underlying t = some (.struct fs)) (hc : uY P 0 fs.toList (P.cellsOf t) = true) (hR : Cv P w fs.toList Rs) : RdB P w t (wi Rs) := by
 intro H enc fuel cs x h
 obtain ⟨xs, n, _, hx, hl, hxl, hf⟩ := DataW.trod_struct ht h
 have key : ∀ (l : List Field) (Rs : List (List AV → Nat → Prop)) (i o : Nat), (∀ j, l[j]? = fs[i + j]?) → uY P o l cs.length = true → Cv P w l Rs →
   ∃ az, VL (gW w) az (cs.drop o) ∧ clL az = true ∧ aM az = true ∧ wi Rs az (Rows.uptoBulk x.1) := by
  intro l
  induction l with
  | nil =>
   intro Rs i o hj hco hr
   cases Rs with
   | cons R Rs => exact hr.elim
   | nil =>
    simp only [uY, beq_iff_eq] at hco
    exact ⟨[], by rw [hco, List.drop_length]; simp [VL], rfl, rfl, rfl⟩
  | cons f l ih =>
   intro Rs i o hj hco hr
   cases Rs with
   | nil => exact hr.elim
   | cons R Rs =>
    simp only [uY, Bool.and_eq_true, beq_iff_eq] at hco
    obtain ⟨rfl, hco⟩ := hco
    obtain ⟨az2, p1, p2, p3, p4⟩ := ih Rs (i + 1) (f.offset + P.cellsOf f.type) (fun j => by have := hj (j + 1); simpa [Nat.add_assoc, Nat.add_comm 1 j] using this) hco hr.2
    have hfi : fs[i]? = some f := by simpa using (hj 0).symm
    have hix : i < xs.length := by rw [hxl]; exact (Array.getElem?_eq_some_iff.1 hfi).1
    have hfx := hf i f hfi
    rw [List.getElem?_eq_getElem hix] at hfx
    obtain ⟨az1, q1, q2, q3, q4⟩ := hr.1 H enc n _ _ hfx
    refine ⟨az1 ++ az2, ?_, Cw q2 p2, uZ q3 p3, az1, az2, _, rfl, q4, ?_, p4⟩
    ·have := VL.append q1 p1
     rw [← List.drop_drop, List.take_append_drop] at this
     exact this
    ·rw [hx]
     have := uX (l := xs.map (·.1)) (List.mem_map.2 ⟨xs[i], List.getElem_mem hix, rfl⟩)
     simp only [Rows.uptoBulk]
     omega
 obtain ⟨az, h1, h2, h3, h4⟩ := key fs.toList Rs 0 0 (by simp) (by rw [hl]; exact hc) hR
 exact ⟨az, by simpa using h1, h2, h3, h4⟩
end Go.Proofs.YtibchilpaaiecaaGreatDoor.M
