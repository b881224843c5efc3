/- Arguments, as memory holds them when a law is called, read as abstract values. -/
import Derived.Test.YtibchilpaaiecaaGreatDoorM17
import Derived.ChangeShapes
import Derived.RowKit
import Derived.Below
set_option linter.all false
namespace Go.Proofs.YtibchilpaaiecaaGreatDoor.M
open Go.RowKit Go.ChangeShapes
def gW (w : World) : Gh := ⟨fun B o => w.cell? ⟨B, o, none⟩, fun _ => none⟩
theorem Inv.start (w : World) (hw : GW w) (hg : Gl (gW w)) : Inv w (gW w) [] (fun _ => 0) w :=
 ⟨hw, hg, Below.refl _ _, fun _ _ _ h => h, fun i B h => by simp [gW] at h, fun i j B h _ => by simp [gW] at h, fun B h => by omega, ⟨[], rfl, fun i b vs h _ => by simp at h, fun B => by simp [tkBs]⟩⟩
def Rd (P : Program) (w : World) (t : TypeId) (R : List AV → Prop) : Prop :=
 ∀ (H : Type) (enc : TypeId × Value → H) (fuel : Nat) (cs : List Value) (x : DataW H × List MemPlace), DataW.trod enc P w 0 (fun _ => true) true fuel t cs = some x →
  ∃ as, VL (gW w) as cs ∧ clL as = true ∧ aM as = true ∧ R as
variable {P : Program} {w : World}
theorem Rd.mono {t : TypeId} {R R' : List AV → Prop} (h : Rd P w t R) (k : ∀ as, R as → R' as) : Rd P w t R' := fun H enc fuel cs x hx =>
 let ⟨as, h1, h2, h3, h4⟩ := h H enc fuel cs x hx; ⟨as, h1, h2, h3, k _ h4⟩
theorem Rd.int {t : TypeId} {k : IntKind} (ht : P.underlying t = some (.int k)) : Rd P w t (fun as => ∃ n, as = [.int k n] ∧ (Lit.int k n).wf = true) := by
 intro H enc fuel cs x h
 obtain ⟨n, rfl, _, hw⟩ := DataW.trod_int ht h
 exact ⟨[.int k n], by simp [VL, VR], by simp [clL, AV.cl], by simp [aM, AV.one], n, rfl, hw⟩
theorem Rd.bool {t : TypeId} (ht : P.underlying t = some .bool) : Rd P w t (fun as => ∃ b, as = [.bool b]) := by
 intro H enc fuel cs x h
 obtain ⟨b, rfl, _⟩ := DataW.trod_bool ht h
 exact ⟨[.bool b], by simp [VL, VR], by simp [clL, AV.cl], by simp [aM, AV.one], b, rfl⟩
theorem Rd.str {t : TypeId} (ht : P.underlying t = some .string) : Rd P w t (fun as => ∃ s : ByteArray, as = [.str s] ∧ s.size ≤ maxLen) := by
 intro H enc fuel cs x h
 obtain ⟨s, rfl, _, hs⟩ := DataW.trod_string ht h
 exact ⟨[.str s], by simp [VL, VR], by simp [clL, AV.cl], by simp [aM, AV.one], s, rfl, hs⟩
theorem cells?_get {a : Addr} {n : Nat} {cs : List Value} (h : w.cells? 0 a n = some cs) : cs.length = n ∧ ∀ i, i < n → w.cell? (a.add i) = cs[i]? := by
 simp only [World.cells?, Nat.zero_le, if_true] at h
 refine ⟨by simpa using mapM_some_length h, fun i hi => ?_⟩
 have := mapM_some_get h i i (by simp [hi])
 simpa using this
theorem cells?_spot {a : Addr} {n : Nat} {cs : List Value} (h : w.cells? 0 a n = some cs) (hn : 0 < n) : a.spot = none := by
 obtain ⟨hl, hg⟩ := cells?_get h
 have h0 := hg 0 hn
 have hc : ∃ v, cs[0]? = some v := ⟨cs[0]'(by omega), by simp [hl, hn]⟩
 obtain ⟨v, hv⟩ := hc
 rw [hv] at h0
 have ha : a.add 0 = a := by simp [Addr.add]
 rw [ha] at h0
 unfold World.cell? at h0
 split at h0
 ·cases hs : a.spot with
  | none => rfl
  | some s => simp [hs] at h0
 ·cases h0
theorem Ad : ∀ {cs : List AV}, clL cs = true → ∀ {i : Nat} {c : AV}, cs[i]? = some c → c.cl = true
 | [], h, i, c, hi => by simp at hi
 | d :: ds, h, i, c, hi => by
  simp only [clL, Bool.and_eq_true] at h
  cases i with
  | zero => simp at hi; subst hi; exact h.1
  | succ i => exact Ad h.2 (by simpa using hi)
theorem Rd.slice {t e : TypeId} {S : Nat} (ht : P.underlying t = some (.slice e)) (hS : P.cellsOf e = S) (h0 : 0 < S) {R : List AV → Prop} (he : Rd P w e R) :
  Rd P w t (fun as => ∃ es : List (List AV), as = [.sl .sh es] ∧ es.length ≤ maxLen ∧ ∀ x ∈ es, R x) := by
 intro H enc fuel cs x h
 rcases DataW.trod_slice ht h with ⟨rfl, _⟩ | ⟨a, len, cap, elems, rest, n, _, rfl, _, hb, hl, hm, hlen, hel, hsp, _⟩
 ·exact ⟨[.sl .sh []], by simp [VL, VR], by simp [clL, AV.cl], by simp [aM, AV.one], [], rfl, by simp, by simp⟩
 ·rcases Nat.eq_zero_or_pos cap with hc | hc
  ·subst hc
   obtain rfl : len = 0 := by omega
   exact ⟨[.sl .sh []], by simp [VL, VR], by simp [clL, AV.cl], by simp [aM, AV.one], [], rfl, by simp, by simp⟩
  ·rw [hS] at hel hsp
   have hspot : a.spot = none := by
    rcases Nat.eq_zero_or_pos len with hz | hz
    ·obtain ⟨hr, hr2⟩ := hsp rfl
     have := hr2 0 (by omega)
     rw [hz] at this
     have hrl : ∃ v, rest[0]? = some v := ⟨rest[0]'(by omega), by simp⟩
     obtain ⟨v, hv⟩ := hrl
     rw [hv, Option.bind_eq_some_iff] at this
     obtain ⟨cs', hcs, _⟩ := this
     have ha : a.add ((0 + 0) * S) = a := by simp [Addr.add]
     rw [ha] at hcs
     exact cells?_spot hcs h0
    ·have := hel 0 hz
     have hrl : ∃ v, elems[0]? = some v := ⟨elems[0]'(by omega), by simp⟩
     obtain ⟨v, hv⟩ := hrl
     rw [hv, Option.bind_eq_some_iff] at this
     obtain ⟨cs', hcs, _⟩ := this
     have ha : a.add (0 * S) = a := by simp [Addr.add]
     rw [ha] at hcs
     exact cells?_spot hcs h0
   obtain ⟨B, o, sp⟩ := a
   simp only at hspot
   subst hspot
   have key : ∀ k i, i + k = len → ∃ es : List (List AV), es.length = k ∧ (∀ x ∈ es, x.length = S ∧ R x) ∧ PE (gW w) es B (o + i * S) := by
    intro k
    induction k with
    | zero => intro i _; exact ⟨[], rfl, by simp, by simp [PE]⟩
    | succ k ih =>
     intro i hi
     obtain ⟨es, e1, e2, e3⟩ := ih (i + 1) (by omega)
     have := hel i (by omega)
     have hrl : ∃ v, elems[i]? = some v := ⟨elems[i]'(by omega), by simp⟩
     obtain ⟨v, hv⟩ := hrl
     rw [hv, Option.bind_eq_some_iff] at this
     obtain ⟨cs', hcs, hx⟩ := this
     obtain ⟨as, q1, q2, q3, q4⟩ := he H enc n cs' v hx
     obtain ⟨g1, g2⟩ := cells?_get hcs
     have hal : as.length = S := by rw [← VL.length q1, g1]
     refine ⟨as :: es, by simp [e1], ?_, ?_⟩
     ·intro x hx'
      rcases List.mem_cons.1 hx' with rfl | hx'
      ·exact ⟨hal, q4⟩
      ·exact e2 x hx'
     ·simp only [PE]
      refine ⟨PR.mk fun j c hj => ?_, ?_⟩
      ·obtain ⟨u, hu, hvr⟩ := VL.get q1 hj
       have hjS : j < S := by rw [← hal]; exact (List.getElem?_eq_some_iff.1 hj).1
       refine ⟨u, ?_, hvr, Ad q2 hj, hY q3 hj⟩
       have := g2 j hjS
       rw [hu, Go.WideShapes.add_plain, Go.WideShapes.add_plain] at this
       exact this
      ·rw [hal, Nat.add_assoc, ← Nat.succ_mul]
       exact e3
   obtain ⟨es, e1, e2, e3⟩ := key len 0 (by omega)
   refine ⟨[.sl .sh es], ?_, by simp [clL, AV.cl], by simp [aM, AV.one], es, rfl, by omega, fun x hx => (e2 x hx).2⟩
   simp only [VL, VR]
   refine ⟨_, _, rfl, .inr ⟨B, o, cap, by rw [e1], by omega, by simp, by simp, ?_, by simpa using e3⟩, rfl⟩
   intro x hx
   cases es with
   | nil => simp at hx
   | cons y ys => rw [(e2 x hx).1]; exact (e2 y (by simp)).1.symm
theorem nD {α : Type} {enc : α → List AV} {Q : α → Prop} : ∀ {es : List (List AV)}, (∀ x ∈ es, ∃ a, x = enc a ∧ Q a) → ∃ l : List α, es = l.map enc ∧ ∀ a ∈ l, Q a
 | [], _ => ⟨[], rfl, by simp⟩
 | e :: es, h => by
  obtain ⟨a, rfl, ha⟩ := h e (by simp)
  obtain ⟨l, rfl, hl⟩ := nD (es := es) fun x hx => h x (by simp [hx])
  exact ⟨a :: l, rfl, fun b hb => (List.mem_cons.1 hb).elim (fun e => e ▸ ha) (hl b)⟩
theorem Rd.slice' {α : Type} {enc : α → List AV} {Q : α → Prop} {t e : TypeId} {S : Nat} (ht : P.underlying t = some (.slice e)) (hS : P.cellsOf e = S) (h0 : 0 < S)
  (he : Rd P w e (fun as => ∃ a, as = enc a ∧ Q a)) : Rd P w t (fun as => ∃ l : List α, as = [.sl .sh (l.map enc)] ∧ l.length ≤ maxLen ∧ ∀ a ∈ l, Q a) :=
 (Rd.slice ht hS h0 he).mono fun as ⟨es, h1, h2, h3⟩ => by
  obtain ⟨l, rfl, hl⟩ := nD h3
  exact ⟨l, h1, by simpa using h2, hl⟩
theorem Rd.byte {t : TypeId} (ht : P.underlying t = some (.int .u8)) : Rd P w t (fun as => ∃ b : UInt8, as = encB b ∧ True) :=
 (Rd.int ht).mono fun as ⟨n, h1, h2⟩ => by
  simp [Lit.wf, IntKind.has, IntKind.min, IntKind.max, IntKind.signed, IntKind.bits] at h2
  refine ⟨UInt8.ofNat n.toNat, ?_, trivial⟩
  subst h1
  have : (UInt8.ofNat n.toNat).toNat = n.toNat := by simp; omega
  simp [encB, this]
  omega
theorem Rd.bytes {t e : TypeId} (ht : P.underlying t = some (.slice e)) (hS : P.cellsOf e = 1) (he : P.underlying e = some (.int .u8)) :
  Rd P w t (fun as => ∃ b : List UInt8, as = [.sl .sh (b.map encB)] ∧ b.length ≤ maxLen) :=
 (Rd.slice' ht hS (by omega) (Rd.byte he)).mono fun as ⟨l, h1, h2, _⟩ => ⟨l, h1, h2⟩
theorem Rd.of_trod {t : TypeId} {R : List AV → Prop} (h : Rd P w t R) {H : Type} {enc : TypeId × Value → H} {v : Value} {d : DataW H} {ps : List MemPlace} (hd : DataW.Trod enc P w 0 (fun _ => true) true t v d ps) :
  ∃ as, VL (gW w) as v.cells.toList ∧ clL as = true ∧ aM as = true ∧ R as :=
 let ⟨fuel, hf⟩ := hd; h H enc fuel _ _ hf
theorem Rd.one {t : TypeId} {R : AV → Prop} {Q : List AV → Prop} (h : Rd P w t Q) (hq : ∀ as, Q as → ∃ a, as = [a] ∧ R a) {H : Type} {enc : TypeId × Value → H} {v : Value} {d : DataW H} {ps : List MemPlace}
  (hd : DataW.Trod enc P w 0 (fun _ => true) true t v d ps) (hv : v.cells.toList = [v]) : ∃ a, VR (gW w) a v ∧ a.cl = true ∧ R a := by
 obtain ⟨as, h1, h2, _, h4⟩ := h.of_trod hd
 obtain ⟨a, rfl, hR⟩ := hq as h4
 rw [hv] at h1
 simp only [VL] at h1
 obtain ⟨v', vs, e, h1, _⟩ := h1
 simp only [List.cons.injEq] at e
 obtain ⟨rfl, _⟩ := e
 simp only [clL, Bool.and_true] at h2
 exact ⟨a, h1, h2, hR⟩
theorem Ae {T : Tbl} (okT : ∀ f d, T f = some d → cW P f d) {f : FuncId} {args : List AV} {b : Bool} (hr : run T f args [] = some (.bool b, [])) {vs : List Value} (hv : VL (gW w) args vs) (hcl : clL args = true) (hw : GW w := by exact ⟨fun p hp => by simp [GR] at hp, fun e he => by simp [GE] at he⟩) (hg : Gl (gW w) := by intro p hp; simp [GT] at hp) :
  Calls P f vs.toArray w fun e w' => e = .returned (.bool b) ∧ Below w.heap.size w w' := by
 have hc := ph okT hr (K := fun r h => r = .bool b ∧ h = []) ⟨rfl, rfl⟩
 refine (hc.2.1 w (gW w) _ w vs hv hcl (Inv.start w hw hg)).mono ?_
 rintro e w' ⟨g', r, u, h', rfl, ⟨rfl, rfl⟩, _, _, hvr, _, hinv⟩
 simp only [VR] at hvr
 subst hvr
 exact ⟨rfl, hinv.below⟩
end Go.Proofs.YtibchilpaaiecaaGreatDoor.M
