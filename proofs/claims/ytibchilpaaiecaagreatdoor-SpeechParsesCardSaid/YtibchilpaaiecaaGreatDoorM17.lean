/- Slices that are built by append: nil at first, then owned. -/
import Derived.Test.YtibchilpaaiecaaGreatDoorM16
set_option linter.all false
namespace Go.Proofs.YtibchilpaaiecaaGreatDoor.M
open Go.RowKit
def ow (l : List (List AV)) : AV := if l.isEmpty then .sl .ex [] else .sl .own l
theorem JR : AV.sl .ex [] = ow [] := rfl
theorem iC (l : List (List AV)) : ∃ m, ow l = .sl m l ∧ m ≠ .sh := by
 cases l with
 | nil => exact ⟨.ex, rfl, by decide⟩
 | cons e l => exact ⟨.own, rfl, by decide⟩
theorem nZ {l : List (List AV)} : (ow l).sh = .sl .sh l := by obtain ⟨m, h, _⟩ := iC l; rw [h]; rfl
theorem w7 {l : List (List AV)} : (ow l).cells = [ow l] := by obtain ⟨m, h, _⟩ := iC l; rw [h]; rfl
theorem E4 {l : List (List AV)} : (ow l).one = true := by obtain ⟨m, h, _⟩ := iC l; rw [h]; rfl
section
variable {S bytes : Nat} {l fs : List (List AV)} {k k' : IntKind} {i : Int} {lo hi : Option Int}
theorem JS : yt (ow l) = some (.int .i64 l.length) := by obtain ⟨m, h, _⟩ := iC l; rw [h]; rfl
theorem KW (h0 : 0 ≤ i) : mB S none (ow l) (.int k i) = elemV S l[i.toNat]? := by obtain ⟨m, h, _⟩ := iC l; rw [h]; exact JL h0
theorem Dj {b : List UInt8} : oT (ow (b.map encB)) = some (.str ⟨b.toArray⟩) := by obtain ⟨m, h, _⟩ := iC (b.map encB); rw [h]; exact tX
theorem E5 (h2 : szOK S l = true) (h3 : szOK S fs = true) (h4 : (l.length + fs.length) * bytes ≤ 140737488355328) (h5 : l.length + fs.length ≤ 9223372036854775807) :
  appV S bytes (ow l) (some fs) = some (ow (l ++ fs)) := by
 obtain ⟨m, h, hm⟩ := iC l
 rw [h, E1 (by cases m <;> simp at hm ⊢ <;> rfl) h2 h3 h4 h5]
 cases fs with
 | nil => rw [GU, List.append_nil, h]
 | cons f fs =>
  rw [wY]
  obtain ⟨m', h', _⟩ := iC (l ++ f :: fs)
  have : ow (l ++ f :: fs) = .sl .own (l ++ f :: fs) := by
   cases l <;> rfl
  rw [this]
theorem JT {f : List AV} (h2 : szOK S l = true) (h3 : szOK S (f :: fs) = true) (h4 : (l.length + (f :: fs).length) * bytes ≤ 140737488355328) (h5 : l.length + (f :: fs).length ≤ 9223372036854775807) :
  appV S bytes (.sl .ex l) (some (f :: fs)) = some (ow (l ++ f :: fs)) := by
 rw [E1 rfl h2 h3 h4 h5, wY]
 cases l <;> rfl
end
theorem pn : ∀ (ws : List Nat) (σ : List AV) (i : Nat), (dD ws σ)[i]? = if i ∈ ws ∧ i < σ.length then some .any else σ[i]?
 | [], σ, i => by simp [dD]
 | j :: ws, σ, i => by
  rw [dD, pn ws]
  simp only [List.length_set, List.mem_cons]
  by_cases h1 : i ∈ ws ∧ i < σ.length
  ·rw [if_pos h1, if_pos ⟨.inr h1.1, h1.2⟩]
  ·rw [if_neg h1]
   by_cases h2 : i = j
   ·subst h2
    by_cases h3 : i < σ.length
    ·rw [List.getElem?_set_self h3, if_pos ⟨.inl rfl, h3⟩]
    ·rw [if_neg (by omega), List.getElem?_eq_none (by simp; omega), List.getElem?_eq_none (by omega)]
   ·rw [List.getElem?_set_ne (by omega), if_neg (by rintro ⟨h4 | h4, h5⟩; exact h2 h4; exact h1 ⟨h4, h5⟩)]
theorem tY : ∀ (ws : List Nat) (σ : List AV), (dD ws σ).length = σ.length
 | [], σ => rfl
 | j :: ws, σ => by rw [dD, tY ws, List.length_set]
theorem vO (ws : List Nat) (σ : List AV) : dD ws (dD ws σ) = dD ws σ := by
 apply List.ext_getElem?
 intro i
 rw [pn, pn, tY]
 split <;> rfl
noncomputable def Ab (T : Tbl) (ws : List Nat) (c : CC) (e : Ex) (σ : List AV) (h : AH) : Option St :=
 match e with | .normal => den T (.loop (.kill ws c)) (dD ws σ) h | .exit i => some (.exit i, σ, h) | .ret => some (.ret, σ, h)
theorem GX {T : Tbl} {ws : List Nat} {c : CC} {σ : List AV} {h : AH} : den T (.loop (.kill ws c)) σ h = den T (.loop (.kill ws c)) (dD ws σ) h := by
 rw [zT, gi, zT, gi, vO]
theorem ae {T : Tbl} {ws : List Nat} {c : CC} {σ : List AV} {h : AH} : den T (.loop (.kill ws c)) σ h = bnd (den T c (dD ws σ) h) (Ab T ws c) := by
 rw [zT, gi]
 cases den T c (dD ws σ) h with
 | none => rfl
 | some r =>
  obtain ⟨e, σ', h'⟩ := r
  cases e
  ·simp only [bnd, seqK, Ab]; rw [GX]
  ·rfl
  ·rfl
section
variable {T : Tbl} {ws : List Nat} {c : CC} {σ σ' : List AV} {h h' : AH}
theorem lk_n : Ab T ws c .normal σ h = den T (.loop (.kill ws c)) (dD ws σ) h := rfl
theorem lk_e {i : Nat} : Ab T ws c (.exit i) σ h = some (.exit i, σ, h) := rfl
theorem lk_r : Ab T ws c .ret σ h = some (.ret, σ, h) := rfl
end
attribute [go_sem] I7 I8 F1 sq_n sq_e sq_r bk_n bk_e bk_r I9 Ja Jb Jc Jd F2 Je Kz Jf Jg CX iW Jh F3 Ji Jj gi CY if_t if_f KA Jk p_gd KB KC KD KE CZ zU Jm F4 F5 KF C0 C1 Jn F6 F7 Jo zV zW F8 F9 C2 C3 Ga Jp Gb Jl Gc KG o_un Jq vM vN Gd Ge Jr Js Jt Ju Jv JM JN Jw zX Gf Gg C4 Gi yH Gj C5 KH Gk Jy Gm Jz Gn Gp KL JA KM Gq KN KO KP KQ KR JB Gr Gs Gt Gu C6 JC JD JE JF yI tX Gv Gw JG JH JI Gx Gy KS C7 C8 Gz GA GB GC GD GF GG GH GI GJ GK GL GM C9 Da Db Dc Dd JJ JK De GO Df GP Dg head_cons z6 GQ JL KT qQ rZ KU GS KV E3 wZ JP GV Dh Di z8 JQ w6 yJ yK yL AV.sh AV.cells AV.one aM shL List.map_cons List.map_nil List.cons_append List.nil_append List.append_nil List.append_assoc List.length_cons List.length_nil List.replicate_succ List.replicate_zero List.set_cons_zero List.set_cons_succ List.getElem?_cons_zero List.getElem?_cons_succ shP ovl List.take_zero List.drop_zero List.take_succ_cons List.drop_succ_cons List.take_nil List.drop_nil yu mrL mrLL mrB AV.mr Nat.zero_add Nat.add_zero Nat.max_self Nat.zero_max Nat.max_zero Nat.zero_le Bool.and_self Bool.true_and Bool.and_true beq_self_eq_true true_and and_true and_self true_or or_true if_true if_false false_implies true_implies implies_true Bool.false_eq_true Nat.le_refl Option.some.injEq Prod.mk.injEq AV.int.injEq AV.bool.injEq Option.getD_some Option.getD_none JR nZ w7 E4 JS KW Dj E5 JT lk_n lk_e lk_r Bool.not_true Bool.not_false bne_self_eq_false beq_self_eq_true Bool.bne_false Bool.bne_true KI KJ Aa pj JO z7
end Go.Proofs.YtibchilpaaiecaaGreatDoor.M
