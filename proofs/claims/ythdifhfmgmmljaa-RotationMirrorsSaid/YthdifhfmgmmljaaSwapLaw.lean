/-
  Plain law: two neighbours change places: faces differ by at most two. Written by an AI agent.
-/
import Derived.Test.YthdifhfmgmmljaaGenus
import Derived.Test.YthdifhfmgmmljaaSameR
namespace Go.Proofs.Ythdifhfmgmmljaa
open Go.RowKit

/-- two places of a list, the one's thing in the other -/
def swpL (l : List Int) (i k : Nat) : List Int := (l.set i (l.getD k 0)).set k (l.getD i 0)
theorem swpL_length (l : List Int) (i k : Nat) : (swpL l i k).length = l.length := by simp [swpL]
theorem swpL_at {l : List Int} {i k : Nat} (hi : i < l.length) (hk : k < l.length) {t : Nat} (ht : t < l.length) : (swpL l i k)[t]'(by rw [swpL_length]; exact ht) = l[swp i k t]'(swp_lt hi hk ht) := by
  unfold swpL
  rw [List.getElem_set]
  have ei : l.getD i 0 = l[i] := by rw [List.getD_eq_getElem?_getD, List.getElem?_eq_getElem hi]; rfl
  have ek : l.getD k 0 = l[k] := by rw [List.getD_eq_getElem?_getD, List.getElem?_eq_getElem hk]; rfl
  by_cases h1 : k = t
  · subst h1
    rw [if_pos rfl, ei]
    congr 1
    unfold swp
    by_cases h2 : k = i
    · rw [if_pos h2, h2]
    · rw [if_neg h2, if_pos rfl]
  · rw [if_neg h1, List.getElem_set]
    by_cases h2 : i = t
    · subst h2
      rw [if_pos rfl, ek]
      congr 1
      unfold swp
      rw [if_pos rfl]
    · rw [if_neg h2]
      congr 1
      unfold swp
      rw [if_neg (Ne.symm h2), if_neg (Ne.symm h1)]
def swpR (rs : List (List Int)) (x i k : Nat) : List (List Int) := rs.set x (swpL (rs.getD x []) i k)
theorem swpR_length (rs : List (List Int)) (x i k : Nat) : (swpR rs x i k).length = rs.length := by simp [swpR]
section
variable {n : Int} {es : List (Int × Int)} {rs : List (List Int)} {x i k : Nat}
theorem swpR_at (hx : x < rs.length) {y : Nat} (hy : y < rs.length) : (swpR rs x i k)[y]'(by rw [swpR_length]; exact hy) = if y = x then swpL rs[x] i k else rs[y] := by
  have e : swpR rs x i k = rs.set x (swpL rs[x] i k) := by unfold swpR; rw [getD_row hx]
  simp only [e]
  rw [List.getElem_set]
  by_cases h : x = y
  · subst h; simp
  · rw [if_neg h, if_neg (Ne.symm h)]
theorem swpR_len (hx : x < rs.length) {y : Nat} (hy : y < rs.length) : ((swpR rs x i k)[y]'(by rw [swpR_length]; exact hy)).length = rs[y].length := by
  rw [swpR_at hx hy]
  split
  · rename_i h; subst h; exact swpL_length _ _ _
  · rfl
theorem swpL_mem {l : List Int} (hi : i < l.length) (hk : k < l.length) (a : Int) : a ∈ swpL l i k ↔ a ∈ l := by
  constructor
  · intro h
    obtain ⟨t, ht, rfl⟩ := List.mem_iff_getElem.1 h
    rw [swpL_length] at ht
    rw [swpL_at hi hk ht]
    exact List.getElem_mem _
  · intro h
    obtain ⟨t, ht, rfl⟩ := List.mem_iff_getElem.1 h
    have := swpL_at hi hk (swp_lt hi hk ht)
    simp only [swp_swp] at this
    rw [← this]
    exact List.getElem_mem _
theorem swp_inj {a b s t : Nat} (h : swp a b s = swp a b t) : s = t := by rw [← swp_swp a b s, h, swp_swp]
theorem swpR_right (h : RightP n es rs) (hx : x < rs.length) (hi : i < rs[x].length) (hk : k < rs[x].length) : RightP n es (swpR rs x i k) := by
  have hmem : ∀ y (hy : y < rs.length) (a : Int), a ∈ (swpR rs x i k)[y]'(by rw [swpR_length]; exact hy) ↔ a ∈ rs[y] := fun y hy a => by
    rw [swpR_at hx hy]
    split
    · rename_i e; subst e; exact swpL_mem hi hk a
    · exact Iff.rfl
  refine ⟨h.may, by rw [swpR_length]; exact h.len, fun y hy a ha => ?_, fun y hy => ?_, fun d hd => ?_⟩
  · have hy' : y < rs.length := by rwa [swpR_length] at hy
    exact h.at_ y hy' a ((hmem y hy' a).1 ha)
  · have hy' : y < rs.length := by rwa [swpR_length] at hy
    rw [swpR_at hx hy']
    split
    · rw [List.nodup_iff_pairwise_ne, List.pairwise_iff_getElem]
      intro s t hs ht hst e
      rw [swpL_length] at hs ht
      rw [swpL_at hi hk hs, swpL_at hi hk ht] at e
      have := swp_inj (nodup_inj (h.nd x hx) _ _ e)
      omega
    · exact h.nd y hy'
  · obtain ⟨y, hy, hm⟩ := h.cov d hd
    exact ⟨y, by rw [swpR_length]; exact hy, (hmem y hy d).2 hm⟩
theorem iso_swp (hx : x < rs.length) : iso (swpR rs x i k) = iso rs := by
  unfold iso
  rw [swpR_length]
  apply List.countP_congr
  intro y hy
  have hy := List.mem_range.1 hy
  rw [getD_row hy, getD_row (by rw [swpR_length]; exact hy), decide_eq_true_eq, decide_eq_true_eq, swpR_len hx hy]
theorem swp_l (a b : Nat) : swp a b a = b := by unfold swp; rw [if_pos rfl]
theorem swp_r (a b : Nat) : swp a b b = a := by
  unfold swp
  by_cases h : b = a
  · rw [if_pos h, h]
  · rw [if_neg h, if_pos rfl]
theorem swp_o {a b x : Nat} (h1 : x ≠ a) (h2 : x ≠ b) : swp a b x = x := by unfold swp; rw [if_neg h1, if_neg h2]
/-- what comes behind what, before and after -/
theorem swp_core {L i K J : Nat} {v f f' : Nat → Nat} (hv : ∀ s t, s < L → t < L → v s = v t → s = t) (hf : ∀ t, t < L → f (v t) = v ((t + 1) % L)) (hf' : ∀ t, t < L → f' (v (swp i K t)) = v (swp i K ((t + 1) % L)))
    (hi : i < L) (hK : (i + 1) % L = K) (hJ : J < L) (hji : (J + 1) % L = i) (h2 : 2 ≤ L) {t : Nat} (ht : t < L) : f' (v t) = f (swp (v J) (v i) (swp (v i) (v K) (v t))) := by
  have hL : K < L := by rw [← hK]; exact Nat.mod_lt _ (by omega)
  have hik : i ≠ K := by
    rw [← hK]
    by_cases h3 : i + 1 = L
    · rw [h3, Nat.mod_self]; omega
    · rw [Nat.mod_eq_of_lt (by omega)]; omega
  have hjni : J ≠ i := fun e => by
    rw [e, hK] at hji
    exact hik hji.symm
  have vn : ∀ {s t : Nat}, s < L → t < L → s ≠ t → v s ≠ v t := fun hs ht hne e => hne (hv _ _ hs ht e)
  by_cases hti : t = i
  · subst hti
    have h3 := hf' K hL
    rw [swp_r] at h3
    rw [h3, swp_l]
    by_cases hJK : J = K
    · subst hJK
      rw [swp_l, hji, swp_l, hf t ht, hK]
    · rw [swp_o (vn hL hJ (Ne.symm hJK)) (vn hL ht (Ne.symm hik)), hf K hL]
      have n1 : (K + 1) % L ≠ t := fun e => hJK (mod_succ_inj hJ hL (by rw [hji, e]))
      have n2 : (K + 1) % L ≠ K := fun e => by
        have := mod_succ_inj hL ht (by rw [e, hK])
        exact hik this.symm
      rw [swp_o n1 n2]
  · by_cases htk : t = K
    · subst htk
      have h3 := hf' i hi
      rw [swp_l, hK, swp_r] at h3
      rw [h3, swp_r, swp_r, hf J hJ, hji]
    · have h3 := hf' t ht
      rw [swp_o hti htk] at h3
      rw [h3, swp_o (vn ht hi hti) (vn ht hL htk)]
      by_cases htj : t = J
      · subst htj
        rw [hji, swp_l, swp_l, hf i hi, hK]
      · have n1 : (t + 1) % L ≠ i := fun e => htj (mod_succ_inj ht hJ (by rw [e, hji]))
        have n2 : (t + 1) % L ≠ K := fun e => hti (mod_succ_inj ht hi (by rw [e, hK]))
        rw [swp_o n1 n2, swp_o (vn ht hJ htj) (vn ht hi hti), hf t ht]
theorem sig_getD (h : RightP n es rs) {y : Nat} (hy : y < rs.length) {t : Nat} (ht : t < rs[y].length) : sig es rs (rs[y].getD t 0).toNat = (rs[y].getD ((t + 1) % rs[y].length) 0).toNat := by
  have hm : (t + 1) % rs[y].length < rs[y].length := Nat.mod_lt _ (by omega)
  rw [List.getD_eq_getElem?_getD, List.getElem?_eq_getElem ht, List.getD_eq_getElem?_getD, List.getElem?_eq_getElem hm]
  obtain ⟨d, hd, _, _⟩ := h.nat hy ht
  have := sig_at h hy ht hd
  show sig es rs (rs[y][t]).toNat = _
  rw [hd]
  exact this
theorem swpL_getD {l : List Int} {i k : Nat} (hi : i < l.length) (hk : k < l.length) {t : Nat} (ht : t < l.length) : (swpL l i k).getD t 0 = l.getD (swp i k t) 0 := by
  rw [List.getD_eq_getElem?_getD, List.getElem?_eq_getElem (by rw [swpL_length]; exact ht), List.getD_eq_getElem?_getD, List.getElem?_eq_getElem (swp_lt hi hk ht)]
  show (swpL l i k)[t]'(by rw [swpL_length]; exact ht) = _
  rw [swpL_at hi hk ht]
  rfl
theorem sig_swp (h : RightP n es rs) (hx : x < rs.length) (hi : i < rs[x].length) (h2 : 2 ≤ rs[x].length) {K : Nat} (hK : (i + 1) % rs[x].length = K) :
    ∃ p a b, p < 2 * es.length ∧ a < 2 * es.length ∧ b < 2 * es.length ∧ a ≠ b ∧ p ≠ a ∧ ∀ d, d < 2 * es.length → sig es (swpR rs x i K) d = sig es rs (swp p a (swp a b d)) := by
  have hL : K < rs[x].length := by rw [← hK]; exact Nat.mod_lt _ (by omega)
  obtain ⟨J, hj⟩ : ∃ J, (i + rs[x].length - 1) % rs[x].length = J := ⟨_, rfl⟩
  have hJ : J < rs[x].length := by rw [← hj]; exact Nat.mod_lt _ (by omega)
  have hji : (J + 1) % rs[x].length = i := by
    rw [← hj, Nat.mod_add_mod, show i + rs[x].length - 1 + 1 = i + rs[x].length by omega, Nat.add_mod_right, Nat.mod_eq_of_lt hi]
  have hik : i ≠ K := by
    rw [← hK]
    by_cases h3 : i + 1 = rs[x].length
    · rw [h3, Nat.mod_self]; omega
    · rw [Nat.mod_eq_of_lt (by omega)]; omega
  have hjni : J ≠ i := fun e => by
    rw [e, hK] at hji
    exact hik hji.symm
  have h' := swpR_right h hx hi hL
  have hx' : x < (swpR rs x i K).length := by rw [swpR_length]; exact hx
  have val : ∀ t, t < rs[x].length → ∃ d : Nat, (rs[x].getD t 0).toNat = d ∧ rs[x].getD t 0 = (d : Int) ∧ d < 2 * es.length ∧ vtx es d = x := fun t ht => by
    obtain ⟨d, hd, h3, h4⟩ := h.nat hx ht
    have e : rs[x].getD t 0 = (d : Int) := by rw [List.getD_eq_getElem?_getD, List.getElem?_eq_getElem ht]; exact hd
    exact ⟨d, by rw [e]; rfl, e, h3, h4⟩
  have hv : ∀ s t, s < rs[x].length → t < rs[x].length → (rs[x].getD s 0).toNat = (rs[x].getD t 0).toNat → s = t := fun s t hs ht e => by
    obtain ⟨d, _, e1, _, _⟩ := val s hs
    obtain ⟨d', _, e2, _, _⟩ := val t ht
    rw [e1, e2] at e
    refine nodup_inj (h.nd x hx) hs ht ?_
    have e3 : rs[x].getD s 0 = rs[x][s] := by rw [List.getD_eq_getElem?_getD, List.getElem?_eq_getElem hs]; rfl
    have e4 : rs[x].getD t 0 = rs[x][t] := by rw [List.getD_eq_getElem?_getD, List.getElem?_eq_getElem ht]; rfl
    rw [← e3, ← e4, e1, e2]
    omega
  have ex : (swpR rs x i K)[x]'hx' = swpL rs[x] i K := by rw [swpR_at hx hx]; simp
  have hf' : ∀ t, t < rs[x].length → sig es (swpR rs x i K) (rs[x].getD (swp i K t) 0).toNat = (rs[x].getD (swp i K ((t + 1) % rs[x].length)) 0).toNat := fun t ht => by
    have := sig_getD h' hx' (t := t) (by rw [ex, swpL_length]; exact ht)
    rw [ex, swpL_length, swpL_getD hi hL ht, swpL_getD hi hL (Nat.mod_lt _ (by omega))] at this
    exact this
  obtain ⟨a, ha, ha1, ha2, hav⟩ := val i hi
  obtain ⟨b, hb, hb1, hb2, hbv⟩ := val K hL
  obtain ⟨p, hp, hp1, hp2, hpv⟩ := val J hJ
  refine ⟨p, a, b, hp2, ha2, hb2, fun e => hik (hv _ _ hi hL (by rw [ha, hb, e])), fun e => hjni (hv _ _ hJ hi (by rw [hp, ha, e])), fun d hd => ?_⟩
  obtain ⟨y, t, hy, ht, he, hdv⟩ := h.pos hd
  by_cases hyx : y = x
  · subst hyx
    have := swp_core (v := fun t => (rs[y].getD t 0).toNat) hv (fun t ht => sig_getD h hy ht) hf' hi hK hJ hji h2 ht
    have et : (rs[y].getD t 0).toNat = d := by rw [List.getD_eq_getElem?_getD, List.getElem?_eq_getElem ht]; show (rs[y][t]).toNat = d; rw [he]; rfl
    simp only [ha, hb, hp, et] at this
    exact this
  · have hda : d ≠ a := fun e => hyx (by rw [← hdv, e, hav])
    have hdb : d ≠ b := fun e => hyx (by rw [← hdv, e, hbv])
    have hdp : d ≠ p := fun e => hyx (by rw [← hdv, e, hpv])
    rw [swp_o hda hdb, swp_o hdp hda]
    have hy' : y < (swpR rs x i K).length := by rw [swpR_length]; exact hy
    have er : (swpR rs x i K)[y]'hy' = rs[y] := by rw [swpR_at hx hy, if_neg hyx]
    have g1 := sig_getD h' hy' (t := t) (by rw [er]; exact ht)
    rw [er, sig_getD h hy ht |>.symm] at g1
    have et : (rs[y].getD t 0).toNat = d := by rw [List.getD_eq_getElem?_getD, List.getElem?_eq_getElem ht]; show (rs[y][t]).toNat = d; rw [he]; rfl
    rw [et] at g1
    exact g1
/-- faces differ by at most two -/
theorem faces_swp (h : RightP n es rs) (hx : x < rs.length) (hi : i < rs[x].length) (h2 : 2 ≤ rs[x].length) :
    (facesOf n es (swpR rs x i ((i + 1) % rs[x].length))).length ≤ (facesOf n es rs).length + 2 ∧ (facesOf n es rs).length ≤ (facesOf n es (swpR rs x i ((i + 1) % rs[x].length))).length + 2 := by
  have hL : (i + 1) % rs[x].length < rs[x].length := Nat.mod_lt _ (by omega)
  have h' := swpR_right h hx hi hL
  obtain ⟨p, a, b, hp, ha, hb, hab, hpa, hs⟩ := sig_swp h hx hi h2 rfl
  rw [faces_rows h, faces_rows h', rowsUpto_length, rowsUpto_length]
  have hf := nxf_perm h
  have oP := ot_lt hp
  have oA := ot_lt ha
  have oB := ot_lt hb
  have key : ∀ z, z < 2 * es.length → nxf es (swpR rs x i ((i + 1) % rs[x].length)) z = nxf es rs (swp (ot p) (ot a) (swp (ot a) (ot b) z)) := by
    intro z hz
    have e1 : nxf es (swpR rs x i ((i + 1) % rs[x].length)) z = sig es (swpR rs x i ((i + 1) % rs[x].length)) (ot z) := by unfold sig; rw [ot_ot]
    rw [e1, hs _ (ot_lt hz)]
    unfold sig
    show nxf es rs (ot (swp p a (swp a b (ot z)))) = nxf es rs (swp (ot p) (ot a) (swp (ot a) (ot b) z))
    congr 1
    have c : ∀ u v y, ot (swp u v y) = swp (ot u) (ot v) (ot y) := by
      intro u v y
      unfold swp
      by_cases h3 : y = u
      · subst h3; simp
      · by_cases h4 : y = v
        · subst h4
          rw [if_neg h3, if_pos rfl, if_neg (fun e => h3 (ot_inj e)), if_pos rfl]
        · rw [if_neg h3, if_neg h4, if_neg (fun e => h3 (ot_inj e)), if_neg (fun e => h4 (ot_inj e))]
    rw [c, c, ot_ot]
  have step : ∀ {f : Nat → Nat} (hf : Perm (2 * es.length) f) {u v : Nat} (hu : u < 2 * es.length) (hv : v < 2 * es.length) (huv : u ≠ v), cls (Orb (fun z => f (swp u v z))) (2 * es.length) ≤ cls (Orb f) (2 * es.length) + 1 ∧ cls (Orb f) (2 * es.length) ≤ cls (Orb (fun z => f (swp u v z))) (2 * es.length) + 1 := by
    intro f hf u v hu hv huv
    by_cases ho : Orb f u v
    · have := cls_joined hf hu hv huv ho; omega
    · have := cls_apart hf hu hv ho; omega
  have s1 := step hf oP oA (fun e => hpa (ot_inj e))
  have s2 := step (hf.swp oP oA) oA oB (fun e => hab (ot_inj e))
  have e3 : cls (Orb (nxf es (swpR rs x i ((i + 1) % rs[x].length)))) (2 * es.length) = cls (Orb (fun z => nxf es rs (swp (ot p) (ot a) (swp (ot a) (ot b) z)))) (2 * es.length) :=
    cls_congr fun y z hy _ => orb_congr (nxf_perm h') key hy
  rw [e3]
  omega
end
end Go.Proofs.Ythdifhfmgmmljaa
