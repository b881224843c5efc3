/- Abstract values: what a Go value denotes, without addresses of slices; the relation to the machine's values. -/
import Derived.Below
import Derived.WalkKit
set_option linter.unusedVariables false
set_option linter.unusedSimpArgs false
namespace Go.Proofs.YtibchilpaaiecaaGreatDoor.M
open Go.RowKit
inductive Md where
 | sh | own | ex
 deriving DecidableEq, Inhabited
inductive AV where
 | int (k : IntKind) (n : Int)
 | bool (b : Bool)
 | str (s : ByteArray)
 | nilp
 | box (id off : Nat)
 | ref (cs : List AV)
 | sl (m : Md) (es : List (List AV))
 | agg (cs : List AV)
 | tup (cs : List AV)
 | nili
 | iface (t : TypeId) (v : AV)
 | nilf
 | fn (f : Fn) (first cap : List AV)
 | nilm
 | mp (id : Nat)
 | any
 | bs (id off len : Nat) (cap : Option Nat)
 deriving Inhabited
structure Gh where
 prot : Nat → Nat → Option Value
 bx : Nat → Option Nat
def AV.cells : AV → List AV
 | .agg cs => cs
 | v => [v]
def AV.one : AV → Bool
 | .agg _ | .tup _ | .any => false
 | _ => true
def aM : List AV → Bool
 | [] => true
 | c :: cs => c.one && aM cs
mutual
def AV.cl : AV → Bool
 | .sl m _ => m != .own
 | .agg cs => clL cs
 | .tup cs => clL cs
 | _ => true
def clL : List AV → Bool
 | [] => true
 | c :: cs => c.cl && clL cs
end
mutual
def AV.sh : AV → AV
 | .sl _ es => .sl .sh es
 | .agg cs => .agg (shL cs)
 | .tup cs => .tup (shL cs)
 | v => v
def shL : List AV → List AV
 | [] => []
 | c :: cs => c.sh :: shL cs
end
def elen : List (List AV) → Nat
 | [] => 0
 | e :: es => e.length + elen es
def hsz : List (List AV) → Nat
 | [] => 0
 | e :: _ => e.length
def Uni (es : List (List AV)) : Prop := ∀ e, e ∈ es → e.length = hsz es
mutual
def VR (g : Gh) : AV → Value → Prop
 | .int k n, v => v = .int k n
 | .bool b, v => v = .bool b
 | .str s, v => v = .string s
 | .nilp, v => v = .pointer none
 | .box id off, v => ∃ B, g.bx id = some B ∧ v = .pointer (some ⟨B, off, none⟩)
 | .ref cs, v => ∃ B o, v = .pointer (some ⟨B, o, none⟩) ∧ PR g cs B o
 | .sl m es, v => (es = [] ∧ m ≠ .own ∧ ∃ a, v = .slice a 0 0) ∨
   ∃ B o cap, v = .slice (some ⟨B, o, none⟩) es.length cap ∧ es.length ≤ cap ∧ (m = .ex → cap = es.length) ∧ (m = .own → 0 < hsz es ∧ o = 0) ∧ Uni es ∧ PE g es B o
 | .agg cs, v => ∃ vs, v = .agg vs ∧ VL g cs vs.toList ∧ aM cs = true
 | .tup cs, v => ∃ vs, v = .tuple vs ∧ VL g cs vs.toList
 | .nili, v => v = .nilIface
 | .iface t x, v => ∃ u, v = .iface t u ∧ VR g x u ∧ x.cl = true
 | .nilf, v => v = .nilFunc
 | .fn f a b, v => ∃ xs ys, v = .func f xs ys ∧ VL g a xs.toList ∧ VL g b ys.toList ∧ clL a = true ∧ clL b = true
 | .nilm, v => v = .map none
 | .mp id, v => ∃ B, g.bx id = some B ∧ v = .map (some B)
 | .any, _ => True
 | .bs id off len cap, v => ∃ B C o, g.bx id = some B ∧ v = .slice (some ⟨B, o, none⟩) len C ∧ len ≤ C ∧ (∀ c, cap = some c → C = c) ∧ (0 < C → o = off)
def VL (g : Gh) : List AV → List Value → Prop
 | [], vs => vs = []
 | c :: cs, vs => ∃ v vs', vs = v :: vs' ∧ VR g c v ∧ VL g cs vs'
def PR (g : Gh) : List AV → Nat → Nat → Prop
 | [], _, _ => True
 | c :: cs, B, o => (∃ u, g.prot B o = some u ∧ VR g c u ∧ c.cl = true ∧ c.one = true) ∧ PR g cs B (o + 1)
def PE (g : Gh) : List (List AV) → Nat → Nat → Prop
 | [], _, _ => True
 | e :: es, B, o => PR g e B o ∧ PE g es B (o + e.length)
end
structure Gh.le (g g' : Gh) : Prop where
 prot : ∀ B o v, g.prot B o = some v → g'.prot B o = some v
 bx : ∀ i B, g.bx i = some B → g'.bx i = some B
theorem Gh.le.refl (g : Gh) : g.le g := ⟨fun _ _ _ h => h, fun _ _ h => h⟩
theorem Gh.le.trans {a b c : Gh} (h : a.le b) (k : b.le c) : a.le c := ⟨fun _ _ _ x => k.prot _ _ _ (h.prot _ _ _ x), fun _ _ x => k.bx _ _ (h.bx _ _ x)⟩
mutual
theorem VR.mono {g g' : Gh} (h : g.le g') : ∀ (v : AV) (u : Value), VR g v u → VR g' v u
 | .int k n, u => by simp [VR]
 | .bool b, u => by simp [VR]
 | .str s, u => by simp [VR]
 | .nilp, u => by simp [VR]
 | .box id off, u => by
  simp only [VR]; rintro ⟨B, hb, rfl⟩; exact ⟨B, h.bx _ _ hb, rfl⟩
 | .ref cs, u => by
  simp only [VR]; rintro ⟨B, o, rfl, hp⟩; exact ⟨B, o, rfl, PR.mono h cs B o hp⟩
 | .sl m es, u => by
  simp only [VR]
  rintro (hn | ⟨B, o, cap, h1, h2, h3, h4, h5, hp⟩)
  ·exact .inl hn
  ·exact .inr ⟨B, o, cap, h1, h2, h3, h4, h5, PE.mono h es B o hp⟩
 | .agg cs, u => by
  simp only [VR]; rintro ⟨vs, rfl, hv, ho⟩; exact ⟨vs, rfl, VL.mono h cs _ hv, ho⟩
 | .tup cs, u => by
  simp only [VR]; rintro ⟨vs, rfl, hv⟩; exact ⟨vs, rfl, VL.mono h cs _ hv⟩
 | .nili, u => by simp [VR]
 | .iface t x, u => by
  simp only [VR]; rintro ⟨y, rfl, hv, hc⟩; exact ⟨y, rfl, VR.mono h x _ hv, hc⟩
 | .nilf, u => by simp [VR]
 | .fn f a b, u => by
  simp only [VR]; rintro ⟨xs, ys, rfl, h1, h2, h3⟩; exact ⟨xs, ys, rfl, VL.mono h a _ h1, VL.mono h b _ h2, h3⟩
 | .nilm, u => by simp [VR]
 | .mp id, u => by
  simp only [VR]; rintro ⟨B, hb, rfl⟩; exact ⟨B, h.bx _ _ hb, rfl⟩
 | .any, u => by simp [VR]
 | .bs id off len cap, u => by
  simp only [VR]; rintro ⟨B, C, o, hb, h1, h2, h3⟩; exact ⟨B, C, o, h.bx _ _ hb, h1, h2, h3⟩
theorem VL.mono {g g' : Gh} (h : g.le g') : ∀ (vs : List AV) (us : List Value), VL g vs us → VL g' vs us
 | [], us => by simp [VL]
 | c :: cs, us => by
  simp only [VL]; rintro ⟨v, vs, rfl, h1, h2⟩; exact ⟨v, vs, rfl, VR.mono h c v h1, VL.mono h cs vs h2⟩
theorem PR.mono {g g' : Gh} (h : g.le g') : ∀ (vs : List AV) (B o : Nat), PR g vs B o → PR g' vs B o
 | [], B, o => by simp [PR]
 | c :: cs, B, o => by
  simp only [PR]; rintro ⟨⟨u, h1, h2, h3⟩, hr⟩; exact ⟨⟨u, h.prot _ _ _ h1, VR.mono h c u h2, h3⟩, PR.mono h cs _ _ hr⟩
theorem PE.mono {g g' : Gh} (h : g.le g') : ∀ (es : List (List AV)) (B o : Nat), PE g es B o → PE g' es B o
 | [], B, o => by simp [PE]
 | e :: es, B, o => by
  simp only [PE]; rintro ⟨h1, h2⟩; exact ⟨PR.mono h e B o h1, PE.mono h es B _ h2⟩
end
theorem ET (v : AV) : v.sh.one = v.one := by cases v <;> rfl
theorem ml : ∀ (cs : List AV), aM (shL cs) = aM cs
 | [] => rfl
 | c :: cs => by simp only [shL, aM, ET c, ml cs]
mutual
theorem VR.sh {g : Gh} : ∀ (v : AV) (u : Value), VR g v u → VR g v.sh u
 | .sl m es, u => by
  simp only [AV.sh, VR]
  rintro (⟨h1, h2, h3⟩ | ⟨B, o, cap, h1, h2, h3, h4, h5, hp⟩)
  ·exact .inl ⟨h1, by simp, h3⟩
  ·exact .inr ⟨B, o, cap, h1, h2, by simp, by simp, h5, hp⟩
 | .agg cs, u => by
  simp only [AV.sh, VR]; rintro ⟨vs, rfl, hv, ho⟩; exact ⟨vs, rfl, VL.sh cs _ hv, by rw [ml]; exact ho⟩
 | .tup cs, u => by
  simp only [AV.sh, VR]; rintro ⟨vs, rfl, hv⟩; exact ⟨vs, rfl, VL.sh cs _ hv⟩
 | .int k n, u => by simp [AV.sh]
 | .bool b, u => by simp [AV.sh]
 | .str s, u => by simp [AV.sh]
 | .nilp, u => by simp [AV.sh]
 | .box id off, u => by simp [AV.sh]
 | .ref cs, u => by simp [AV.sh]
 | .nili, u => by simp [AV.sh]
 | .iface t x, u => by simp [AV.sh]
 | .nilf, u => by simp [AV.sh]
 | .fn f a b, u => by simp [AV.sh]
 | .nilm, u => by simp [AV.sh]
 | .mp id, u => by simp [AV.sh]
 | .any, u => by simp [AV.sh]
 | .bs _ _ _ _, u => by simp [AV.sh]
theorem VL.sh {g : Gh} : ∀ (vs : List AV) (us : List Value), VL g vs us → VL g (shL vs) us
 | [], us => by simp [shL]
 | c :: cs, us => by
  simp only [shL, VL]; rintro ⟨v, vs, rfl, h1, h2⟩; exact ⟨v, vs, rfl, VR.sh c v h1, VL.sh cs vs h2⟩
end
theorem VR.oneCell {g : Gh} : ∀ {v : AV} {u : Value}, VR g v u → v.one = true → u.oneCell' = true
 | .int _ _, u, h, _ => by simp only [VR] at h; subst h; rfl
 | .bool _, u, h, _ => by simp only [VR] at h; subst h; rfl
 | .str _, u, h, _ => by simp only [VR] at h; subst h; rfl
 | .nilp, u, h, _ => by simp only [VR] at h; subst h; rfl
 | .box _ _, u, h, _ => by simp only [VR] at h; obtain ⟨_, _, rfl⟩ := h; rfl
 | .ref _, u, h, _ => by simp only [VR] at h; obtain ⟨_, _, rfl, _⟩ := h; rfl
 | .sl _ _, u, h, _ => by simp only [VR] at h; rcases h with ⟨_, _, _, rfl⟩ | ⟨_, _, _, rfl, _⟩ <;> rfl
 | .agg _, u, h, ho => by simp [AV.one] at ho
 | .tup _, u, h, ho => by simp [AV.one] at ho
 | .nili, u, h, _ => by simp only [VR] at h; subst h; rfl
 | .iface _ _, u, h, _ => by simp only [VR] at h; obtain ⟨_, rfl, _⟩ := h; rfl
 | .nilf, u, h, _ => by simp only [VR] at h; subst h; rfl
 | .fn _ _ _, u, h, _ => by simp only [VR] at h; obtain ⟨_, _, rfl, _⟩ := h; rfl
 | .nilm, u, h, _ => by simp only [VR] at h; subst h; rfl
 | .mp _, u, h, _ => by simp only [VR] at h; obtain ⟨_, _, rfl⟩ := h; rfl
 | .any, u, h, ho => by simp [AV.one] at ho
 | .bs _ _ _ _, u, h, _ => by simp only [VR] at h; obtain ⟨_, _, _, _, rfl, _⟩ := h; rfl
theorem hY : ∀ {cs : List AV}, aM cs = true → ∀ {i : Nat} {c : AV}, cs[i]? = some c → c.one = true
 | [], h, i, c, hi => by simp at hi
 | d :: ds, h, i, c, hi => by
  simp only [aM, Bool.and_eq_true] at h
  cases i with
  | zero => simp at hi; subst hi; exact h.1
  | succ i => exact hY h.2 (by simpa using hi)
theorem iz : ∀ {cs : List AV}, (∀ c, c ∈ cs → c.one = true) → aM cs = true
 | [], _ => rfl
 | c :: cs, h => by simp only [aM, Bool.and_eq_true]; exact ⟨h c (by simp), iz fun x hx => h x (by simp [hx])⟩
theorem fw {cs : List AV} (h : aM cs = true) : ∀ c, c ∈ cs → c.one = true := by
 intro c hc
 obtain ⟨i, hi⟩ := List.getElem?_of_mem hc
 exact hY h hi
theorem VL.length {g : Gh} : ∀ {vs : List AV} {us : List Value}, VL g vs us → us.length = vs.length
 | [], us, h => by simp only [VL] at h; simp [h]
 | c :: cs, us, h => by
  simp only [VL] at h; obtain ⟨v, vs, rfl, _, h2⟩ := h; simp [VL.length h2]
theorem VL.get {g : Gh} : ∀ {vs : List AV} {us : List Value}, VL g vs us → ∀ {i : Nat} {v : AV}, vs[i]? = some v → ∃ u, us[i]? = some u ∧ VR g v u
 | [], us, h, i, v, hi => by simp at hi
 | c :: cs, us, h, i, v, hi => by
  simp only [VL] at h; obtain ⟨u, vs, rfl, h1, h2⟩ := h
  cases i with
  | zero => simp at hi; subst hi; exact ⟨u, rfl, h1⟩
  | succ i => exact VL.get h2 (by simpa using hi)
theorem VL.set {g : Gh} : ∀ {vs : List AV} {us : List Value}, VL g vs us → ∀ (i : Nat) {v : AV} {u : Value}, VR g v u → VL g (vs.set i v) (us.set i u)
 | [], us, h, i, v, u, hv => by simp only [VL] at h; subst h; simp [VL]
 | c :: cs, us, h, i, v, u, hv => by
  simp only [VL] at h; obtain ⟨x, xs, rfl, h1, h2⟩ := h
  cases i with
  | zero => exact ⟨u, xs, rfl, hv, h2⟩
  | succ i => exact ⟨x, xs.set i u, rfl, h1, VL.set h2 i hv⟩
theorem VL.append {g : Gh} : ∀ {vs ws : List AV} {us ts : List Value}, VL g vs us → VL g ws ts → VL g (vs ++ ws) (us ++ ts)
 | [], ws, us, ts, h, k => by simp only [VL] at h; subst h; simpa using k
 | c :: cs, ws, us, ts, h, k => by
  simp only [VL] at h; obtain ⟨x, xs, rfl, h1, h2⟩ := h
  exact ⟨x, xs ++ ts, rfl, h1, VL.append h2 k⟩
theorem VL.drop {g : Gh} : ∀ {vs : List AV} {us : List Value}, VL g vs us → ∀ n, VL g (vs.drop n) (us.drop n)
 | [], us, h, n => by simp only [VL] at h; subst h; simp [VL]
 | c :: cs, us, h, n => by
  simp only [VL] at h; obtain ⟨x, xs, rfl, h1, h2⟩ := h
  cases n with
  | zero => exact ⟨x, xs, rfl, h1, h2⟩
  | succ n => simpa using VL.drop h2 n
theorem VL.take {g : Gh} : ∀ {vs : List AV} {us : List Value}, VL g vs us → ∀ n, VL g (vs.take n) (us.take n)
 | [], us, h, n => by simp only [VL] at h; subst h; simp [VL]
 | c :: cs, us, h, n => by
  simp only [VL] at h; obtain ⟨x, xs, rfl, h1, h2⟩ := h
  cases n with
  | zero => simp [VL]
  | succ n => exact ⟨x, xs.take n, by simp, h1, VL.take h2 n⟩
theorem VL.replicate {g : Gh} {v : AV} {u : Value} (h : VR g v u) : ∀ n, VL g (List.replicate n v) (List.replicate n u)
 | 0 => by simp [VL]
 | n + 1 => by simp only [List.replicate_succ, VL]; exact ⟨u, _, rfl, h, VL.replicate h n⟩
theorem PR.at_ {g : Gh} : ∀ {cs : List AV} {B o : Nat}, PR g cs B o → ∀ {i : Nat} {c : AV}, cs[i]? = some c → ∃ u, g.prot B (o + i) = some u ∧ VR g c u ∧ c.cl = true ∧ c.one = true
 | [], B, o, h, i, c, hi => by simp at hi
 | d :: ds, B, o, h, i, c, hi => by
  simp only [PR] at h; obtain ⟨h1, h2⟩ := h
  cases i with
  | zero => simp at hi; subst hi; simpa using h1
  | succ i =>
   have := PR.at_ h2 (i := i) (c := c) (by simpa using hi)
   rwa [show o + 1 + i = o + (i + 1) from by omega] at this
theorem PR.mk {g : Gh} : ∀ {cs : List AV} {B o : Nat}, (∀ i c, cs[i]? = some c → ∃ u, g.prot B (o + i) = some u ∧ VR g c u ∧ c.cl = true ∧ c.one = true) → PR g cs B o
 | [], B, o, h => by simp [PR]
 | d :: ds, B, o, h => by
  refine ⟨by simpa using h 0 d rfl, PR.mk fun i c hi => ?_⟩
  have := h (i + 1) c (by simpa using hi)
  rwa [show o + (i + 1) = o + 1 + i from by omega] at this
theorem PR.drop {g : Gh} {cs : List AV} {B o : Nat} (h : PR g cs B o) (n : Nat) : PR g (cs.drop n) B (o + n) :=
 PR.mk fun i c hi => by
  have := PR.at_ h (i := n + i) (c := c) (by simpa using hi)
  rwa [show o + (n + i) = o + n + i from by omega] at this
theorem PR.take {g : Gh} {cs : List AV} {B o : Nat} (h : PR g cs B o) (n : Nat) : PR g (cs.take n) B o :=
 PR.mk fun i c hi => by
  rw [List.getElem?_take] at hi
  split at hi
  ·exact PR.at_ h hi
  ·simp at hi
theorem PE.at_ {g : Gh} : ∀ {es : List (List AV)} {B o : Nat}, PE g es B o → ∀ {i : Nat} {e : List AV} {s : Nat}, es[i]? = some e → (∀ x, x ∈ es → x.length = s) → PR g e B (o + i * s)
 | [], B, o, h, i, e, s, hi, hs => by simp at hi
 | d :: ds, B, o, h, i, e, s, hi, hs => by
  simp only [PE] at h; obtain ⟨h1, h2⟩ := h
  cases i with
  | zero => simp at hi; subst hi; simpa using h1
  | succ i =>
   have := PE.at_ h2 (i := i) (e := e) (s := s) (by simpa using hi) (fun x hx => hs x (by simp [hx]))
   rw [hs d (by simp)] at this
   rwa [show o + s + i * s = o + (i + 1) * s from by rw [Nat.add_mul]; omega] at this
theorem PE.drop {g : Gh} : ∀ {es : List (List AV)} {B o : Nat}, PE g es B o → ∀ {s : Nat}, (∀ x, x ∈ es → x.length = s) → ∀ n, PE g (es.drop n) B (o + n * s) ∨ es.drop n = []
 | [], B, o, h, s, hs, n => by simp
 | d :: ds, B, o, h, s, hs, n => by
  simp only [PE] at h; obtain ⟨h1, h2⟩ := h
  cases n with
  | zero => left; simp [PE]; exact ⟨h1, h2⟩
  | succ n =>
   have := PE.drop h2 (s := s) (fun x hx => hs x (by simp [hx])) n
   rw [hs d (by simp)] at this
   simp only [List.drop_succ_cons]
   rwa [show o + s + n * s = o + (n + 1) * s from by rw [Nat.add_mul]; omega] at this
theorem PE.take {g : Gh} : ∀ {es : List (List AV)} {B o : Nat}, PE g es B o → ∀ n, PE g (es.take n) B o
 | [], B, o, h, n => by simp [PE]
 | d :: ds, B, o, h, n => by
  simp only [PE] at h; obtain ⟨h1, h2⟩ := h
  cases n with
  | zero => simp [PE]
  | succ n => exact ⟨h1, PE.take h2 n⟩
theorem PE.append {g : Gh} : ∀ {es fs : List (List AV)} {B o : Nat}, PE g es B o → PE g fs B (o + elen es) → PE g (es ++ fs) B o
 | [], fs, B, o, h, k => by simpa [elen] using k
 | d :: ds, fs, B, o, h, k => by
  simp only [PE] at h; obtain ⟨h1, h2⟩ := h
  refine ⟨h1, PE.append h2 ?_⟩
  simpa [elen, Nat.add_assoc] using k
theorem jc : ∀ (a b : List (List AV)), elen (a ++ b) = elen a + elen b
 | [], b => by simp [elen]
 | e :: es, b => by simp [elen, jc es b, Nat.add_assoc]
theorem mn : ∀ (es : List (List AV)) (s : Nat), (∀ x, x ∈ es → x.length = s) → elen es = es.length * s
 | [], s, h => by simp [elen]
 | e :: es, s, h => by
  simp only [elen, List.length_cons, Nat.add_mul]
  rw [mn es s (fun x hx => h x (by simp [hx])), h e (by simp)]; omega
end Go.Proofs.YtibchilpaaiecaaGreatDoor.M
