/- What is told is parsed again: plain. -/
import Derived.Test.YtibchilpaaiecaaGreatDoorL135
set_option linter.all false
set_option maxRecDepth 100000
set_option maxHeartbeats 32000000
namespace Go.Proofs.YtibchilpaaiecaaGreatDoor.L
open Go.Proofs.YtibchilpaaiecaaGreatDoor.M Go.Proofs.YtibchilpaaiecaaGreatDoor.F Go.Proofs
theorem join_mem {c s : UInt8} : ∀ {l : List (List UInt8)}, c ∈ Lib.join l [s] → c = s ∨ ∃ w ∈ l, c ∈ w
  | [], h => by simp [Lib.join_nil] at h
  | x :: r, h => by
    rw [Lib.join_cons, List.mem_append] at h
    rcases h with h | h
    · exact .inr ⟨x, by simp, h⟩
    · unfold Lib.joinTail at h
      rw [List.mem_flatten] at h
      obtain ⟨y, hy, hc⟩ := h
      obtain ⟨w, hw, rfl⟩ := List.mem_map.1 hy
      rcases List.mem_append.1 hc with hc | hc
      · rw [List.mem_singleton] at hc; exact .inl hc
      · exact .inr ⟨w, List.mem_cons_of_mem _ hw, hc⟩
theorem itoa_chr {n : Int} : ∀ c ∈ Lib.itoa n, c.toNat = 45 ∨ (48 ≤ c.toNat ∧ c.toNat ≤ 57) := by
  intro c hc
  unfold Lib.itoa at hc
  split at hc
  · rcases List.mem_cons.1 hc with rfl | hc
    · exact .inl rfl
    · exact .inr (dec_dig _ c hc)
  · exact .inr (dec_dig _ c hc)
theorem itoa_chr0 {n : Int} (h : 0 ≤ n) : ∀ c ∈ Lib.itoa n, 48 ≤ c.toNat ∧ c.toNat ≤ 57 := by
  intro c hc
  unfold Lib.itoa at hc
  rw [if_neg (by omega)] at hc
  exact dec_dig _ c hc
theorem rigC_chr {s : List UInt8} (h : rigC s = true) : ∀ c ∈ s, 46 ≤ c.toNat ∧ c.toNat ≤ 57 := by
  obtain ⟨h1, h2⟩ := parC_inv h
  obtain ⟨hn, _, hk⟩ := fit_iff.1 h1
  intro c hc
  rw [← h2] at hc
  unfold txtC at hc
  rw [joinP_join] at hc
  rcases List.mem_append.1 hc with hc | hc
  · rcases join_mem hc with rfl | ⟨w, hw, hc⟩
    · decide
    · obtain ⟨k, hk', rfl⟩ := List.mem_map.1 hw
      have := itoa_chr0 (hk k hk').1 c hc
      omega
  · rcases List.mem_cons.1 hc with rfl | hc
    · decide
    · have := itoa_chr0 hn.1 c hc
      omega
theorem dotT_chr {l : List Int} (h : ∀ k ∈ l, 0 ≤ k) : ∀ c ∈ dotT l, c.toNat = 46 ∨ (48 ≤ c.toNat ∧ c.toNat ≤ 57) := by
  intro c hc
  rcases join_mem hc with rfl | ⟨w, hw, hc⟩
  · exact .inl rfl
  · obtain ⟨k, hk', rfl⟩ := List.mem_map.1 hw
    exact .inr (itoa_chr0 (h k hk') c hc)
theorem hexD_chr {n : Nat} (h : n < 16) : 48 ≤ (hexD n).toNat := by
  have : n = 0 ∨ n = 1 ∨ n = 2 ∨ n = 3 ∨ n = 4 ∨ n = 5 ∨ n = 6 ∨ n = 7 ∨ n = 8 ∨ n = 9 ∨ n = 10 ∨ n = 11 ∨ n = 12 ∨ n = 13 ∨ n = 14 ∨ n = 15 := by omega
  rcases this with rfl | rfl | rfl | rfl | rfl | rfl | rfl | rfl | rfl | rfl | rfl | rfl | rfl | rfl | rfl | rfl <;> decide
theorem hexT_chr : ∀ (t : List UInt8), ∀ c ∈ hexT t, 48 ≤ c.toNat
  | [], c, h => by simp [hexT] at h
  | x :: t, c, h => by
    have hx := x.toNat_lt
    simp only [hexT, List.mem_cons] at h
    rcases h with rfl | rfl | h
    · exact hexD_chr (by omega)
    · exact hexD_chr (by omega)
    · exact hexT_chr t c h
theorem lblT_chr {e : Ent} (h : rigC e.1 = true ∧ 0 ≤ e.2) : ∀ c ∈ lblT e, 46 ≤ c.toNat := by
  intro c hc
  unfold lblT at hc
  rcases List.mem_append.1 hc with hc | hc
  · exact (rigC_chr h.1 c hc).1
  · rcases List.mem_cons.1 hc with rfl | hc
    · decide
    · have := itoa_chr0 h.2 c hc; omega
theorem rigE_each : ∀ (l : List Ent) (p : Option (List UInt8)), rigE p l = true → ∀ e ∈ l, rigC e.1 = true ∧ 0 ≤ e.2
  | [], p, _, e, he => by cases he
  | a :: l, p, h, e, he => by
    have h4 := rigE_all (a :: l) p h e he
    simp only [rigE, Bool.and_eq_true] at h
    rcases List.mem_cons.1 he with rfl | he
    · exact ⟨by first | exact h.1 | exact h.1.1 | exact h.1.1.1 | exact h.1.1.1.1 | simp_all, h4.2.1⟩
    · exact rigE_each l (some a.1) (by first | exact h.2 | exact h.2.2 | exact h.2.2.2 | simp_all) e he
theorem rigL_each {l : List Ent} (h : rigL l = true) : ∀ e ∈ l, rigC e.1 = true ∧ 0 ≤ e.2 := by
  simp only [rigL, Bool.and_eq_true, decide_eq_true_eq] at h
  exact rigE_each l none h.2
theorem pcs_join {c : UInt8} : ∀ (ws : List (List UInt8)), ws ≠ [] → (∀ w ∈ ws, c ∉ w) → pcs c (Lib.join ws [c]) = ws
  | [], h, _ => absurd rfl h
  | [w], _, h => by rw [Lib.join_one]; exact split_one (h w (by simp))
  | a :: b :: r, _, h => by
    have ih := pcs_join (b :: r) (by simp) fun w hw => h w (List.mem_cons_of_mem _ hw)
    have e : Lib.join (a :: b :: r) [c] = a ++ c :: Lib.join (b :: r) [c] := by
      rw [Lib.join_cons, Lib.join_cons]; simp [Lib.joinTail]
    rw [e]
    unfold pcs at ih ⊢
    rw [split_more (h a (by simp)), ih]
theorem mag_dec {u : Nat} (h : u ≤ 1048576) : Lib.parseMag (Lib.decDigits u) = .ok u := by
  have hp := parse_dec u [] (by omega)
  have hn := dec_ne u
  rw [List.append_nil] at hp
  cases hl : Lib.decDigits u with
  | nil => exact absurd hl hn
  | cons c r =>
    rw [hl] at hp
    unfold Lib.parseMag
    rw [if_neg (by simp), hp]
    rfl
theorem atoi_all {n : Int} (h0 : -1048576 ≤ n) (h1 : n ≤ 1048576) : Lib.atoiAll (Lib.itoa n) = .ok n := by
  by_cases hn : 0 ≤ n
  · exact atoi_itoa hn h1
  · have e : Lib.itoa n = 45 :: Lib.decDigits n.natAbs := by unfold Lib.itoa; rw [if_pos (by omega)]
    rw [e, Lib.atoiAll_minus, mag_dec (by omega)]
    unfold Lib.signed
    simp only
    rw [if_neg (by omega)]
    congr 1
    omega
theorem atoV_itoa {n : Int} (h0 : -1048576 ≤ n) (h1 : n ≤ 1048576) : atoV (Lib.itoa n) = n := by unfold atoV; rw [atoi_all h0 h1]
theorem atoO_itoa {n : Int} (h0 : -1048576 ≤ n) (h1 : n ≤ 1048576) : atoO (Lib.itoa n) = some n := by unfold atoO; rw [atoi_all h0 h1]
theorem frm_way {l : List Int} (h : rigP l = true) : frmP (wayT l) = l := by
  unfold frmP wayT
  by_cases h0 : l = []
  · rw [if_pos h0, if_pos rfl, h0]
  · rw [if_neg h0]
    have h1 := prs_dot h
    by_cases h2 : dotT l = [46]
    · exfalso
      rw [h2] at h1
      have : prsP [46] = ([], false) := by decide +kernel
      rw [this] at h1
      cases h1
    · rw [if_neg h2, h1]
theorem entW_lbl {e : Ent} (h : rigC e.1 = true ∧ 0 ≤ e.2) (h4 : e.2 ≤ 1048576) : entW (lblT e) = some e := by
  unfold entW lblT
  rw [cut_app fun hm => by have := (rigC_chr h.1 61 hm).2; revert this; decide]
  simp only [if_true]
  rw [atoO_itoa (by have := h.2; omega) h4]
  rfl
theorem labW_map : ∀ (l a : List Ent), (∀ e ∈ l, entW (lblT e) = some e) → labW a (l.map lblT) = some (a ++ l)
  | [], a, _ => by simp [labW]
  | e :: l, a, h => by
    rw [List.map_cons, labW, h e (by simp)]
    simp only
    rw [labW_map l _ fun x hx => h x (List.mem_cons_of_mem _ hx)]
    simp
theorem labT_ne {l : List Ent} (h : l ≠ []) : labT l ≠ [45] := by
  unfold labT
  rw [if_neg h]
  cases l with
  | nil => exact absurd rfl h
  | cons e r =>
    intro hz
    have : (61 : UInt8) ∈ Lib.join ((e :: r).map lblT) [44] := by
      rw [List.map_cons, Lib.join_cons]
      simp [lblT]
    rw [hz] at this
    simp at this
theorem lab_lab {l : List Ent} (h : rigL l = true) : labP (labT l) = (l, true) := by
  by_cases h0 : l = []
  · subst h0; rfl
  · unfold labP
    rw [if_neg (labT_ne h0)]
    have hj : (splitP 44 (labT l)).map (·.1) = l.map lblT := by
      have : pcs 44 (labT l) = l.map lblT := by
        unfold labT
        rw [if_neg h0]
        refine pcs_join _ (by simpa using h0) fun w hw hm => ?_
        obtain ⟨e, he, rfl⟩ := List.mem_map.1 hw
        have := lblT_chr (rigL_each h e he) 44 hm
        revert this; decide
      exact this
    rw [hj, labW_map l [] fun e he => entW_lbl (rigL_each h e he) (by
      have h' := h
      simp only [rigL, Bool.and_eq_true, decide_eq_true_eq] at h'
      have := rigE_all l none h'.2 e he
      omega)]
    simp only [List.nil_append]
    rw [if_pos ⟨h, trivial⟩]
theorem own_own {l : List (List UInt8)} (h : rigO l = true) : ownP (ownT l) = (l, true) := by
  unfold ownP ownT
  by_cases h0 : l = []
  · rw [if_pos h0, if_pos rfl, h0]
  · rw [if_neg h0]
    obtain ⟨h8, hs⟩ := rigO_all h
    have hp : pcs 44 (Lib.join l [44]) = l := pcs_join l h0 fun w hw hm => by
      have := (rigC_chr (hs w hw).1 44 hm).1
      revert this; decide
    by_cases h1 : Lib.join l [44] = [45]
    · exfalso
      rw [h1] at hp
      have : pcs 44 [45] = [[45]] := by decide
      rw [this] at hp
      have h45 := hs [45] (by rw [← hp]; simp)
      have := (rigC_chr h45.1 45 (by simp)).1
      revert this; decide
    · rw [if_neg h1, hp, if_pos h]
theorem nib_hexD {n : Nat} (h : n < 16) : nib (hexD n) = n := by
  have : n = 0 ∨ n = 1 ∨ n = 2 ∨ n = 3 ∨ n = 4 ∨ n = 5 ∨ n = 6 ∨ n = 7 ∨ n = 8 ∨ n = 9 ∨ n = 10 ∨ n = 11 ∨ n = 12 ∨ n = 13 ∨ n = 14 ∨ n = 15 := by omega
  rcases this with rfl | rfl | rfl | rfl | rfl | rfl | rfl | rfl | rfl | rfl | rfl | rfl | rfl | rfl | rfl | rfl <;> rfl
theorem unhex_hexT : ∀ (t a : List UInt8), unhexO a (hexT t) = some (a ++ t)
  | [], a => by simp [hexT, unhexO]
  | x :: t, a => by
    have hx := x.toNat_lt
    rw [hexT, unhexO, nib_hexD (by omega), nib_hexD (by omega), if_neg (by omega)]
    simp only [Int.toNat_natCast]
    rw [show 16 * (x.toNat / 16) + x.toNat % 16 = x.toNat by omega, UInt8.ofNat_toNat, unhex_hexT t]
    simp
theorem txt_byt (t : List UInt8) : txtW (bytW t) = t := by
  unfold txtW bytW
  by_cases h0 : t = []
  · rw [if_pos h0, h0]; rfl
  · rw [if_neg h0, unhex_hexT]; rfl
theorem wrd_nsp {c : Cal} (hr : rigCal c = true) (hcat : c.cat = [] ∨ rigC c.cat = true) (p : UInt8) : (32 : UInt8) ∉ wrd c p := by
  have r := rcC_of hr
  have key : ∀ {w : List UInt8}, (∀ c ∈ w, 33 ≤ c.toNat) → (32 : UInt8) ∉ w := fun h hm => by have := h 32 hm; revert this; decide
  refine key fun x hx => ?_
  have hway : ∀ {l : List Int}, rigP l = true → x ∈ wayT l → 33 ≤ x.toNat := fun h hm => by
    unfold wayT at hm
    split at hm
    · rw [List.mem_singleton] at hm; subst hm; decide
    · have := dotT_chr (fun k hk => ((rigP_all h).2 k hk).1) x hm; omega
  have hlab : ∀ {l : List Ent}, rigL l = true → x ∈ labT l → 33 ≤ x.toNat := fun h hm => by
    unfold labT at hm
    split at hm
    · rw [List.mem_singleton] at hm; subst hm; decide
    · rcases join_mem hm with rfl | ⟨w, hw, hc⟩
      · decide
      · obtain ⟨e, he, rfl⟩ := List.mem_map.1 hw
        have := lblT_chr (rigL_each h e he) x hc; omega
  have hito : ∀ {n : Int}, x ∈ Lib.itoa n → 33 ≤ x.toNat := fun hm => by have := itoa_chr x hm; omega
  unfold wrd at hx
  repeat' split at hx
  · exact hway r.at_ hx
  · exact hway r.seg hx
  · exact hlab r.lab hx
  · exact hlab r.ent hx
  · exact hito hx
  · exact hito hx
  · unfold ownT at hx
    split at hx
    · rw [List.mem_singleton] at hx; subst hx; decide
    · rcases join_mem hx with rfl | ⟨w, hw, hc⟩
      · decide
      · have := rigC_chr ((rigO_all r.own).2 w hw).1 x hc; omega
  · unfold bytW at hx
    split at hx
    · rw [List.mem_singleton] at hx; subst hx; decide
    · have := hexT_chr _ x hx; omega
  · rcases hcat with h | h
    · rw [h] at hx; cases hx
    · have := rigC_chr h x hx; omega
  · rw [List.mem_singleton] at hx; subst hx; decide
  · rw [List.mem_singleton] at hx; subst hx; decide
theorem nmT_nsp (op : Int) : (32 : UInt8) ∉ nmT op := by
  by_cases hop : 0 ≤ op ∧ op ≤ 20
  · rcases op21 hop with rfl | rfl | h
    · decide
    · decide
    rcases op_cases h with rfl | rfl | rfl | rfl | rfl | rfl | rfl | rfl | rfl | rfl | rfl | rfl | rfl | rfl | rfl | rfl | rfl | rfl | rfl <;> decide
  · unfold nmT; rw [if_neg hop]; simp
theorem rig_cat {c : Cal} (hr : rigCal c = true) : c.cat = [] ∨ rigC c.cat = true := by
  obtain ⟨_, hpl, hg⟩ := rigCal_all hr
  by_cases z : (7 : Int) ∈ pL c.op
  · right
    have := hg 7 z
    simpa only [rgP, Int.reduceEq, if_true, if_false, reduceIte] using this
  · left
    have hpe := plC_eq c
    rw [hpl] at hpe
    have := congrArg Cal.cat hpe
    simp only at this
    rw [if_neg z] at this
    exact this
theorem pcs_txt {c : Cal} (hr : rigCal c = true) : pcs 32 (cTxt c) = wrdsC c := by
  unfold cTxt
  rw [if_pos hr]
  refine pcs_join _ (by simp [wrdsC]) fun w hw => ?_
  rcases List.mem_cons.1 hw with rfl | hw
  · exact nmT_nsp _
  · obtain ⟨p, _, rfl⟩ := List.mem_map.1 hw
    exact wrd_nsp hr (rig_cat hr) p
theorem ix_nm {op : Int} (h : 0 ≤ op ∧ op ≤ 20) : ixF 0 nmL (nmT op) = op := by
  rcases op21 h with rfl | rfl | h
  · decide
  · decide
  rcases op_cases h with rfl | rfl | rfl | rfl | rfl | rfl | rfl | rfl | rfl | rfl | rfl | rfl | rfl | rfl | rfl | rfl | rfl | rfl | rfl <;> decide
def lt9 (p : Int) : UInt8 := if p = 0 then 97 else if p = 1 then 108 else if p = 2 then 110 else if p = 3 then 109 else if p = 4 then 101 else if p = 5 then 111 else if p = 6 then 116 else if p = 7 then 99 else if p = 8 then 115 else if p = 9 then 119 else 110
theorem fS_map {op : Int} (h : 0 ≤ op ∧ op ≤ 20) : fS op = (pL op).map lt9 := by
  rcases op21 h with rfl | rfl | h
  · rfl
  · rfl
  rcases op_cases h with rfl | rfl | rfl | rfl | rfl | rfl | rfl | rfl | rfl | rfl | rfl | rfl | rfl | rfl | rfl | rfl | rfl | rfl | rfl <;> rfl
theorem prC_fold (f : UInt8 → List UInt8) : ∀ (ps : List UInt8) (o : Cal), prC o ps (ps.map f) = ps.foldl (fun o p => setP o p (f p)) o
  | [], o => by simp [prC]
  | p :: ps, o => by rw [List.map_cons, prC, prC_fold f ps, List.foldl_cons]
theorem setP_pln {c o : Cal} (hr : rigCal c = true) {p : Int} (hp : 0 ≤ p ∧ p ≤ 10) : setP o (lt9 p) (wrd c (lt9 p)) = plnS c o p := by
  have r := rcC_of hr
  rcases p_cases hp with rfl | rfl | rfl | rfl | rfl | rfl | rfl | rfl | rfl | rfl | rfl
  · show { o with at_ := frmP (wayT c.at_) } = _
    rw [frm_way r.at_]; rfl
  · show { o with lab := (labP (labT c.lab)).1 } = _
    rw [lab_lab r.lab]; rfl
  · show { o with n := atoV (Lib.itoa c.n) } = _
    rw [atoV_itoa r.n.1 r.n.2]; rfl
  · show { o with m := atoV (Lib.itoa c.m) } = _
    rw [atoV_itoa (by have := r.m; omega) r.m.2]; rfl
  · show { o with ent := (labP (labT c.ent)).1 } = _
    rw [lab_lab r.ent]; rfl
  · show { o with own := (ownP (ownT c.own)).1 } = _
    rw [own_own r.own]; rfl
  · show { o with text := txtW (bytW c.text) } = _
    rw [txt_byt]; rfl
  · rfl
  · show { o with seg := frmP (wayT c.seg) } = _
    rw [frm_way r.seg]; rfl
  · show { o with write := (if c.write then [119] else [114]) == ([119] : List UInt8) } = _
    have : ((if c.write then [119] else [114]) == ([119] : List UInt8)) = c.write := by cases c.write <;> rfl
    rw [this]; rfl
  · show { o with n := atoV (Lib.itoa c.n) } = _
    rw [atoV_itoa r.n.1 r.n.2]; rfl
theorem fold_pln {c : Cal} (hr : rigCal c = true) : ∀ (ps : List Int) (o : Cal), (∀ p ∈ ps, 0 ≤ p ∧ p ≤ 10) → (ps.map lt9).foldl (fun o p => setP o p (wrd c p)) o = ps.foldl (plnS c) o
  | [], o, _ => rfl
  | p :: ps, o, h => by
    rw [List.map_cons, List.foldl_cons, List.foldl_cons, setP_pln hr (h p (by simp))]
    exact fold_pln hr ps _ fun q hq => h q (List.mem_cons_of_mem _ hq)
theorem mkC_txt {c : Cal} (hr : rigCal c = true) : opW (cTxt c) = c.op ∧ mkC (cTxt c) = c := by
  have ho := (rcC_of hr).op
  have h1 : opW (cTxt c) = c.op := by
    unfold opW
    rw [pcs_txt hr]
    exact ix_nm ho
  refine ⟨h1, ?_⟩
  unfold mkC
  rw [h1, pcs_txt hr]
  show prC (zeroC c.op) (fS c.op) ((fS c.op).map (wrd c)) = c
  rw [prC_fold, fS_map ho, fold_pln hr _ _ (pL_rng c.op).2]
  exact (rigCal_all hr).2.1
theorem parT_txt {c : Cal} (hr : rigCal c = true) : parT (cTxt c) = .ok c := by
  obtain ⟨h1, h2⟩ := mkC_txt hr
  have := (rcC_of hr).op
  unfold parT
  rw [h1, h2, if_neg (by omega), if_pos rfl]
theorem opW_nil : opW [] = -1 := by decide
theorem parT_inv {s : List UInt8} {c : Cal} (h : parT s = .ok c) : cTxt c = s ∧ rigCal c = true := by
  unfold parT at h
  by_cases h0 : opW s < 0
  · rw [if_pos h0] at h; cases h
  · rw [if_neg h0] at h
    by_cases ht : cTxt (mkC s) = s
    · rw [if_pos ht] at h
      cases h
      refine ⟨ht, ?_⟩
      cases hr : rigCal (mkC s) with
      | true => rfl
      | false =>
        exfalso
        unfold cTxt at ht
        rw [hr, if_neg (by simp)] at ht
        rw [← ht, opW_nil] at h0
        omega
    · rw [if_neg ht] at h; cases h
theorem prsP_rig (s : List UInt8) : rigP (prsP s).1 = true := by
  unfold prsP
  split
  · rfl
  · split
    · rfl
    · split
      · rename_i h; exact h.1
      · rfl
theorem frmP_rig (s : List UInt8) : rigP (frmP s) = true := by
  unfold frmP
  split
  · rfl
  · exact prsP_rig s
theorem labP_rig (s : List UInt8) : rigL (labP s).1 = true := by
  unfold labP
  split
  · rfl
  · split
    · rfl
    · split
      · rename_i h; exact h.1
      · rfl
theorem ownP_rig (s : List UInt8) : rigO (ownP s).1 = true := by
  unfold ownP
  split
  · exact rigO_nil
  · split
    · rename_i h; exact h
    · exact rigO_nil
theorem unhexO_len : ∀ (n : Nat) (s a q : List UInt8), s.length ≤ n → unhexO a s = some q → q.length ≤ a.length + s.length := by
  intro n
  induction n using Nat.strongRecOn with
  | _ n ih =>
    intro s a q hn h
    match s, hn, h with
    | [], _, h => simp only [unhexO, Option.some.injEq] at h; subst h; simp
    | [x], _, h => simp only [unhexO, Option.some.injEq] at h; subst h; simp
    | x :: y :: r, hn, h =>
      rw [unhexO] at h
      split at h
      · cases h
      · simp only [List.length_cons] at hn
        have := ih r.length (by omega) r _ q (Nat.le_refl _) h
        simp only [List.length_append, List.length_cons, List.length_nil] at this ⊢
        omega
theorem txtW_len (w : List UInt8) : (txtW w).length ≤ w.length := by
  unfold txtW
  cases h : unhexO [] w with
  | none => simp
  | some q => have := unhexO_len _ w [] q (Nat.le_refl _) h; simpa using this
theorem setP_ok {o : Cal} {p : UInt8} {w : List UInt8} (ho : okC o) (hw : w.length ≤ 900000000) : okC (setP o p w) := by
  have f1 := (rigP_all (frmP_rig w)).1
  have f2 := rigL_okE (labP_rig w)
  have f3 := rigO_all (ownP_rig w)
  have f4 := txtW_len w
  have f5 : ∀ e ∈ (labP w).1, e.1.length ≤ 281474976710656 := fun e he => by have := (f2.1 e he).1; omega
  have f6 : shS (ownP w).1 := fun e he => by have := (f3.2 e he).2; omega
  unfold setP
  repeat' split
  · exact ⟨by show (frmP w).length ≤ _; omega, ho.lab, ho.ent, ho.own, ho.text, ho.seg, ho.labS, ho.entS, ho.ownS, ho.catS⟩
  · exact ⟨ho.at_, ho.lab, ho.ent, ho.own, ho.text, by show (frmP w).length ≤ _; omega, ho.labS, ho.entS, ho.ownS, ho.catS⟩
  · exact ⟨ho.at_, by show (labP w).1.length ≤ _; omega, ho.ent, ho.own, ho.text, ho.seg, f5, ho.entS, ho.ownS, ho.catS⟩
  · exact ⟨ho.at_, ho.lab, by show (labP w).1.length ≤ _; omega, ho.own, ho.text, ho.seg, ho.labS, f5, ho.ownS, ho.catS⟩
  · exact ⟨ho.at_, ho.lab, ho.ent, ho.own, ho.text, ho.seg, ho.labS, ho.entS, ho.ownS, ho.catS⟩
  · exact ⟨ho.at_, ho.lab, ho.ent, ho.own, ho.text, ho.seg, ho.labS, ho.entS, ho.ownS, ho.catS⟩
  · exact ⟨ho.at_, ho.lab, ho.ent, by show (ownP w).1.length ≤ _; omega, ho.text, ho.seg, ho.labS, ho.entS, f6, ho.catS⟩
  · exact ⟨ho.at_, ho.lab, ho.ent, ho.own, by show (txtW w).length ≤ _; omega, ho.seg, ho.labS, ho.entS, ho.ownS, ho.catS⟩
  · exact ⟨ho.at_, ho.lab, ho.ent, ho.own, ho.text, ho.seg, ho.labS, ho.entS, ho.ownS, by show w.length ≤ _; omega⟩
  · exact ⟨ho.at_, ho.lab, ho.ent, ho.own, ho.text, ho.seg, ho.labS, ho.entS, ho.ownS, ho.catS⟩
theorem prC_ok : ∀ (ps : List UInt8) (ws : List (List UInt8)) (o : Cal), okC o → (∀ w ∈ ws, w.length ≤ 900000000) → okC (prC o ps ws)
  | [], _, o, h, _ => by simpa [prC] using h
  | _ :: _, [], o, h, _ => by simpa [prC] using h
  | p :: ps, w :: ws, o, h, hw => by
    rw [prC]
    exact prC_ok ps ws _ (setP_ok h (hw w (by simp))) fun x hx => hw x (List.mem_cons_of_mem _ hx)
theorem mkC_ok {s : List UInt8} (hs : s.length ≤ 900000000) : okC (mkC s) :=
  prC_ok _ _ _ (zeroC_ok _) fun w hw => by
    have := pcs_len (List.mem_of_mem_tail hw); omega
end Go.Proofs.YtibchilpaaiecaaGreatDoor.L
