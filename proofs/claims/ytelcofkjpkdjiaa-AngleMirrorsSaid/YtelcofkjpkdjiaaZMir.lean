import Derived.Test.YtelcofkjpkdjiaaZEul
import Derived.Test.YtelcofkjpkdjiaaZReg
import Derived.Test.YtelcofkjpkdjiaaZAngFits
import Derived.Test.YtelcofkjpkdjiaaZAng1
import Derived.Test.YtelcofkjpkdjiaaZVw
import Derived.Test.YtelcofkjpkdjiaaZFit2
/-
  Plain law: two neighbours change places: faces differ by at most two. Written by an AI agent.
-/
namespace Go.Proofs.Ytelcofkjpkdjiaa
open Go.RowKit

theorem swpL_at {l : List Int} {i k : Nat} (hi : i < l.length) (hk : k < l.length) {t : Nat} (ht : t < l.length) : (swpL l i k)[t]'(by rw [swpL_length]; exact ht) = l[swp i k t]'(swp_lt hi hk ht) := by
  unfold swpL
  rw [List.getElem_set]
  have ei : l.getD i 0 = l[i] := by rw [List.getD_eq_getElem?_getD, List.getElem?_eq_getElem hi]; rfl
  have ek : l.getD k 0 = l[k] := by rw [List.getD_eq_getElem?_getD, List.getElem?_eq_getElem hk]; rfl
  by_cases h1 : k = t
  · subst h1
    rw [if_pos rfl, ei]
    congr 1
    unfold swp
    by_cases h2 : k = i
    · rw [if_pos h2, h2]
    · rw [if_neg h2, if_pos rfl]
  · rw [if_neg h1, List.getElem_set]
    by_cases h2 : i = t
    · subst h2
      rw [if_pos rfl, ek]
      congr 1
      unfold swp
      rw [if_pos rfl]
    · rw [if_neg h2]
      congr 1
      unfold swp
      rw [if_neg (Ne.symm h2), if_neg (Ne.symm h1)]
def swpR (rs : List (List Int)) (x i k : Nat) : List (List Int) := rs.set x (swpL (rs.getD x []) i k)
theorem swpR_length (rs : List (List Int)) (x i k : Nat) : (swpR rs x i k).length = rs.length := by simp [swpR]
section
variable {n : Int} {es : List (Int × Int)} {rs : List (List Int)} {x i k : Nat}
theorem swpR_at (hx : x < rs.length) {y : Nat} (hy : y < rs.length) : (swpR rs x i k)[y]'(by rw [swpR_length]; exact hy) = if y = x then swpL rs[x] i k else rs[y] := by
  have e : swpR rs x i k = rs.set x (swpL rs[x] i k) := by unfold swpR; rw [getD_row hx]
  simp only [e]
  rw [List.getElem_set]
  by_cases h : x = y
  · subst h; simp
  · rw [if_neg h, if_neg (Ne.symm h)]
theorem swpR_len (hx : x < rs.length) {y : Nat} (hy : y < rs.length) : ((swpR rs x i k)[y]'(by rw [swpR_length]; exact hy)).length = rs[y].length := by
  rw [swpR_at hx hy]
  split
  · rename_i h; subst h; exact swpL_length _ _ _
  · rfl
theorem swpL_mem {l : List Int} (hi : i < l.length) (hk : k < l.length) (a : Int) : a ∈ swpL l i k ↔ a ∈ l := by
  constructor
  · intro h
    obtain ⟨t, ht, rfl⟩ := List.mem_iff_getElem.1 h
    rw [swpL_length] at ht
    rw [swpL_at hi hk ht]
    exact List.getElem_mem _
  · intro h
    obtain ⟨t, ht, rfl⟩ := List.mem_iff_getElem.1 h
    have := swpL_at hi hk (swp_lt hi hk ht)
    simp only [swp_swp] at this
    rw [← this]
    exact List.getElem_mem _
theorem swp_inj {a b s t : Nat} (h : swp a b s = swp a b t) : s = t := by rw [← swp_swp a b s, h, swp_swp]
theorem swpR_right (h : RightP n es rs) (hx : x < rs.length) (hi : i < rs[x].length) (hk : k < rs[x].length) : RightP n es (swpR rs x i k) := by
  have hmem : ∀ y (hy : y < rs.length) (a : Int), a ∈ (swpR rs x i k)[y]'(by rw [swpR_length]; exact hy) ↔ a ∈ rs[y] := fun y hy a => by
    rw [swpR_at hx hy]
    split
    · rename_i e; subst e; exact swpL_mem hi hk a
    · exact Iff.rfl
  refine ⟨h.may, by rw [swpR_length]; exact h.len, fun y hy a ha => ?_, fun y hy => ?_, fun d hd => ?_⟩
  · have hy' : y < rs.length := by rwa [swpR_length] at hy
    exact h.at_ y hy' a ((hmem y hy' a).1 ha)
  · have hy' : y < rs.length := by rwa [swpR_length] at hy
    rw [swpR_at hx hy']
    split
    · rw [List.nodup_iff_pairwise_ne, List.pairwise_iff_getElem]
      intro s t hs ht hst e
      rw [swpL_length] at hs ht
      rw [swpL_at hi hk hs, swpL_at hi hk ht] at e
      have := swp_inj (nodup_inj (h.nd x hx) _ _ e)
      omega
    · exact h.nd y hy'
  · obtain ⟨y, hy, hm⟩ := h.cov d hd
    exact ⟨y, by rw [swpR_length]; exact hy, (hmem y hy d).2 hm⟩
theorem iso_swp (hx : x < rs.length) : iso (swpR rs x i k) = iso rs := by
  unfold iso
  rw [swpR_length]
  apply List.countP_congr
  intro y hy
  have hy := List.mem_range.1 hy
  rw [getD_row hy, getD_row (by rw [swpR_length]; exact hy), decide_eq_true_eq, decide_eq_true_eq, swpR_len hx hy]
/-- what comes behind what, before and after -/
theorem swp_core {L i K J : Nat} {v f f' : Nat → Nat} (hv : ∀ s t, s < L → t < L → v s = v t → s = t) (hf : ∀ t, t < L → f (v t) = v ((t + 1) % L)) (hf' : ∀ t, t < L → f' (v (swp i K t)) = v (swp i K ((t + 1) % L)))
    (hi : i < L) (hK : (i + 1) % L = K) (hJ : J < L) (hji : (J + 1) % L = i) (h2 : 2 ≤ L) {t : Nat} (ht : t < L) : f' (v t) = f (swp (v J) (v i) (swp (v i) (v K) (v t))) := by
  have hL : K < L := by rw [← hK]; exact Nat.mod_lt _ (by omega)
  have hik : i ≠ K := by
    rw [← hK]
    by_cases h3 : i + 1 = L
    · rw [h3, Nat.mod_self]; omega
    · rw [Nat.mod_eq_of_lt (by omega)]; omega
  have hjni : J ≠ i := fun e => by
    rw [e, hK] at hji
    exact hik hji.symm
  have vn : ∀ {s t : Nat}, s < L → t < L → s ≠ t → v s ≠ v t := fun hs ht hne e => hne (hv _ _ hs ht e)
  by_cases hti : t = i
  · subst hti
    have h3 := hf' K hL
    rw [swp_r] at h3
    rw [h3, swp_l]
    by_cases hJK : J = K
    · subst hJK
      rw [swp_l, hji, swp_l, hf t ht, hK]
    · rw [swp_o (vn hL hJ (Ne.symm hJK)) (vn hL ht (Ne.symm hik)), hf K hL]
      have n1 : (K + 1) % L ≠ t := fun e => hJK (mod_succ_inj hJ hL (by rw [hji, e]))
      have n2 : (K + 1) % L ≠ K := fun e => by
        have := mod_succ_inj hL ht (by rw [e, hK])
        exact hik this.symm
      rw [swp_o n1 n2]
  · by_cases htk : t = K
    · subst htk
      have h3 := hf' i hi
      rw [swp_l, hK, swp_r] at h3
      rw [h3, swp_r, swp_r, hf J hJ, hji]
    · have h3 := hf' t ht
      rw [swp_o hti htk] at h3
      rw [h3, swp_o (vn ht hi hti) (vn ht hL htk)]
      by_cases htj : t = J
      · subst htj
        rw [hji, swp_l, swp_l, hf i hi, hK]
      · have n1 : (t + 1) % L ≠ i := fun e => htj (mod_succ_inj ht hJ (by rw [e, hji]))
        have n2 : (t + 1) % L ≠ K := fun e => hti (mod_succ_inj ht hi (by rw [e, hK]))
        rw [swp_o n1 n2, swp_o (vn ht hJ htj) (vn ht hi hti), hf t ht]
theorem sig_getD (h : RightP n es rs) {y : Nat} (hy : y < rs.length) {t : Nat} (ht : t < rs[y].length) : sig es rs (rs[y].getD t 0).toNat = (rs[y].getD ((t + 1) % rs[y].length) 0).toNat := by
  have hm : (t + 1) % rs[y].length < rs[y].length := Nat.mod_lt _ (by omega)
  rw [List.getD_eq_getElem?_getD, List.getElem?_eq_getElem ht, List.getD_eq_getElem?_getD, List.getElem?_eq_getElem hm]
  obtain ⟨d, hd, _, _⟩ := h.nat hy ht
  have := sig_at h hy ht hd
  show sig es rs (rs[y][t]).toNat = _
  rw [hd]
  exact this
theorem sig_swp (h : RightP n es rs) (hx : x < rs.length) (hi : i < rs[x].length) (h2 : 2 ≤ rs[x].length) {K : Nat} (hK : (i + 1) % rs[x].length = K) :
    ∃ p a b, p < 2 * es.length ∧ a < 2 * es.length ∧ b < 2 * es.length ∧ a ≠ b ∧ p ≠ a ∧ ∀ d, d < 2 * es.length → sig es (swpR rs x i K) d = sig es rs (swp p a (swp a b d)) := by
  have hL : K < rs[x].length := by rw [← hK]; exact Nat.mod_lt _ (by omega)
  obtain ⟨J, hj⟩ : ∃ J, (i + rs[x].length - 1) % rs[x].length = J := ⟨_, rfl⟩
  have hJ : J < rs[x].length := by rw [← hj]; exact Nat.mod_lt _ (by omega)
  have hji : (J + 1) % rs[x].length = i := by
    rw [← hj, Nat.mod_add_mod, show i + rs[x].length - 1 + 1 = i + rs[x].length by omega, Nat.add_mod_right, Nat.mod_eq_of_lt hi]
  have hik : i ≠ K := by
    rw [← hK]
    by_cases h3 : i + 1 = rs[x].length
    · rw [h3, Nat.mod_self]; omega
    · rw [Nat.mod_eq_of_lt (by omega)]; omega
  have hjni : J ≠ i := fun e => by
    rw [e, hK] at hji
    exact hik hji.symm
  have h' := swpR_right h hx hi hL
  have hx' : x < (swpR rs x i K).length := by rw [swpR_length]; exact hx
  have val : ∀ t, t < rs[x].length → ∃ d : Nat, (rs[x].getD t 0).toNat = d ∧ rs[x].getD t 0 = (d : Int) ∧ d < 2 * es.length ∧ vtx es d = x := fun t ht => by
    obtain ⟨d, hd, h3, h4⟩ := h.nat hx ht
    have e : rs[x].getD t 0 = (d : Int) := by rw [List.getD_eq_getElem?_getD, List.getElem?_eq_getElem ht]; exact hd
    exact ⟨d, by rw [e]; rfl, e, h3, h4⟩
  have hv : ∀ s t, s < rs[x].length → t < rs[x].length → (rs[x].getD s 0).toNat = (rs[x].getD t 0).toNat → s = t := fun s t hs ht e => by
    obtain ⟨d, _, e1, _, _⟩ := val s hs
    obtain ⟨d', _, e2, _, _⟩ := val t ht
    rw [e1, e2] at e
    refine nodup_inj (h.nd x hx) hs ht ?_
    have e3 : rs[x].getD s 0 = rs[x][s] := by rw [List.getD_eq_getElem?_getD, List.getElem?_eq_getElem hs]; rfl
    have e4 : rs[x].getD t 0 = rs[x][t] := by rw [List.getD_eq_getElem?_getD, List.getElem?_eq_getElem ht]; rfl
    rw [← e3, ← e4, e1, e2]
    omega
  have ex : (swpR rs x i K)[x]'hx' = swpL rs[x] i K := by rw [swpR_at hx hx]; simp
  have hf' : ∀ t, t < rs[x].length → sig es (swpR rs x i K) (rs[x].getD (swp i K t) 0).toNat = (rs[x].getD (swp i K ((t + 1) % rs[x].length)) 0).toNat := fun t ht => by
    have := sig_getD h' hx' (t := t) (by rw [ex, swpL_length]; exact ht)
    rw [ex, swpL_length, swpL_getD hi hL ht, swpL_getD hi hL (Nat.mod_lt _ (by omega))] at this
    exact this
  obtain ⟨a, ha, ha1, ha2, hav⟩ := val i hi
  obtain ⟨b, hb, hb1, hb2, hbv⟩ := val K hL
  obtain ⟨p, hp, hp1, hp2, hpv⟩ := val J hJ
  refine ⟨p, a, b, hp2, ha2, hb2, fun e => hik (hv _ _ hi hL (by rw [ha, hb, e])), fun e => hjni (hv _ _ hJ hi (by rw [hp, ha, e])), fun d hd => ?_⟩
  obtain ⟨y, t, hy, ht, he, hdv⟩ := h.pos hd
  by_cases hyx : y = x
  · subst hyx
    have := swp_core (v := fun t => (rs[y].getD t 0).toNat) hv (fun t ht => sig_getD h hy ht) hf' hi hK hJ hji h2 ht
    have et : (rs[y].getD t 0).toNat = d := by rw [List.getD_eq_getElem?_getD, List.getElem?_eq_getElem ht]; show (rs[y][t]).toNat = d; rw [he]; rfl
    simp only [ha, hb, hp, et] at this
    exact this
  · have hda : d ≠ a := fun e => hyx (by rw [← hdv, e, hav])
    have hdb : d ≠ b := fun e => hyx (by rw [← hdv, e, hbv])
    have hdp : d ≠ p := fun e => hyx (by rw [← hdv, e, hpv])
    rw [swp_o hda hdb, swp_o hdp hda]
    have hy' : y < (swpR rs x i K).length := by rw [swpR_length]; exact hy
    have er : (swpR rs x i K)[y]'hy' = rs[y] := by rw [swpR_at hx hy, if_neg hyx]
    have g1 := sig_getD h' hy' (t := t) (by rw [er]; exact ht)
    rw [er, sig_getD h hy ht |>.symm] at g1
    have et : (rs[y].getD t 0).toNat = d := by rw [List.getD_eq_getElem?_getD, List.getElem?_eq_getElem ht]; show (rs[y][t]).toNat = d; rw [he]; rfl
    rw [et] at g1
    exact g1
/-- faces differ by at most two -/
theorem faces_swp (h : RightP n es rs) (hx : x < rs.length) (hi : i < rs[x].length) (h2 : 2 ≤ rs[x].length) :
    (facesOf n es (swpR rs x i ((i + 1) % rs[x].length))).length ≤ (facesOf n es rs).length + 2 ∧ (facesOf n es rs).length ≤ (facesOf n es (swpR rs x i ((i + 1) % rs[x].length))).length + 2 := by
  have hL : (i + 1) % rs[x].length < rs[x].length := Nat.mod_lt _ (by omega)
  have h' := swpR_right h hx hi hL
  obtain ⟨p, a, b, hp, ha, hb, hab, hpa, hs⟩ := sig_swp h hx hi h2 rfl
  rw [faces_rows h, faces_rows h', rowsUpto_length, rowsUpto_length]
  have hf := nxf_perm h
  have oP := ot_lt hp
  have oA := ot_lt ha
  have oB := ot_lt hb
  have key : ∀ z, z < 2 * es.length → nxf es (swpR rs x i ((i + 1) % rs[x].length)) z = nxf es rs (swp (ot p) (ot a) (swp (ot a) (ot b) z)) := by
    intro z hz
    have e1 : nxf es (swpR rs x i ((i + 1) % rs[x].length)) z = sig es (swpR rs x i ((i + 1) % rs[x].length)) (ot z) := by unfold sig; rw [ot_ot]
    rw [e1, hs _ (ot_lt hz)]
    unfold sig
    show nxf es rs (ot (swp p a (swp a b (ot z)))) = nxf es rs (swp (ot p) (ot a) (swp (ot a) (ot b) z))
    congr 1
    have c : ∀ u v y, ot (swp u v y) = swp (ot u) (ot v) (ot y) := by
      intro u v y
      unfold swp
      by_cases h3 : y = u
      · subst h3; simp
      · by_cases h4 : y = v
        · subst h4
          rw [if_neg h3, if_pos rfl, if_neg (fun e => h3 (ot_inj e)), if_pos rfl]
        · rw [if_neg h3, if_neg h4, if_neg (fun e => h3 (ot_inj e)), if_neg (fun e => h4 (ot_inj e))]
    rw [c, c, ot_ot]
  have step : ∀ {f : Nat → Nat} (hf : Perm (2 * es.length) f) {u v : Nat} (hu : u < 2 * es.length) (hv : v < 2 * es.length) (huv : u ≠ v), cls (Orb (fun z => f (swp u v z))) (2 * es.length) ≤ cls (Orb f) (2 * es.length) + 1 ∧ cls (Orb f) (2 * es.length) ≤ cls (Orb (fun z => f (swp u v z))) (2 * es.length) + 1 := by
    intro f hf u v hu hv huv
    by_cases ho : Orb f u v
    · have := cls_joined hf hu hv huv ho; omega
    · have := cls_apart hf hu hv ho; omega
  have s1 := step hf oP oA (fun e => hpa (ot_inj e))
  have s2 := step (hf.swp oP oA) oA oB (fun e => hab (ot_inj e))
  have e3 : cls (Orb (nxf es (swpR rs x i ((i + 1) % rs[x].length)))) (2 * es.length) = cls (Orb (fun z => nxf es rs (swp (ot p) (ot a) (swp (ot a) (ot b) z)))) (2 * es.length) :=
    cls_congr fun y z hy _ => orb_congr (nxf_perm h') key hy
  rw [e3]
  omega
end
end Go.Proofs.Ytelcofkjpkdjiaa
/-
  Plain law of mirrored rotations: as many faces, of as many half edges, and as many handles. Written by an AI agent.
-/
namespace Go.Proofs.Ytelcofkjpkdjiaa
open Go.RowKit

section
variable {N : Nat} {f g α : Nat → Nat}
theorem conj_iter (hf : Perm N f) (H : ∀ x, x < N → g (α (f x)) = α x) : ∀ i x, x < N → iter g i (α (iter f i x)) = α x
  | 0, _, _ => rfl
  | i + 1, x, hx => by
    rw [iter_succ f i x]
    show iter g i (g (α (f (iter f i x)))) = α x
    rw [H _ (hf.iter_lt i hx)]
    exact conj_iter hf H i x hx
theorem per_same (hf : Perm N f) (hg : Perm N g) {a b : Nat} (ha : a < N) (hb : b < N) (h : ∀ p, iter g p a = a ↔ iter f p b = b) : per g a = per f b := by
  obtain ⟨a1, _, a3, a4⟩ := per_spec hg ha
  obtain ⟨b1, _, b3, b4⟩ := per_spec hf hb
  rcases Nat.lt_trichotomy (per g a) (per f b) with h1 | h1 | h1
  · exact absurd ((h _).1 a3) (b4 _ a1 h1)
  · exact h1
  · exact absurd ((h _).2 b3) (a4 _ b1 h1)
theorem conj_per (hf : Perm N f) (hg : Perm N g) (ha : ∀ x, x < N → α x < N) (haa : ∀ x, α (α x) = x) (H : ∀ x, x < N → g (α (f x)) = α x) {x : Nat} (hx : x < N) : per g (α x) = per f x := by
  refine per_same hf hg (ha x hx) hx fun p => ?_
  have k := conj_iter hf H p x hx
  constructor
  · intro h
    have e := hg.iter_inj p (ha _ (hf.iter_lt p hx)) (ha x hx) (k.trans h.symm)
    have := congrArg α e
    rwa [haa, haa] at this
  · intro h
    rw [h] at k
    exact k
theorem per_orb (hf : Perm N f) {x y : Nat} (hx : x < N) (o : Orb f x y) : per f y = per f x := by
  obtain ⟨i, rfl⟩ := o
  refine per_same hf hf (hf.iter_lt i hx) hx fun p => ?_
  rw [← iter_add, Nat.add_comm, iter_add]
  constructor
  · intro h; exact hf.iter_inj i (hf.iter_lt p hx) hx h
  · intro h; rw [h]
theorem conj_back (hf : Perm N f) (ha : ∀ x, x < N → α x < N) (haa : ∀ x, α (α x) = x) (H : ∀ x, x < N → g (α (f x)) = α x) : ∀ y, y < N → f (α (g y)) = α y := by
  intro y hy
  obtain ⟨p1, _, p3, _⟩ := per_spec hf (ha y hy)
  have e : f (iter f (per f (α y) - 1) (α y)) = α y := by
    rw [← iter_succ f, show per f (α y) - 1 + 1 = per f (α y) by omega]; exact p3
  have hx := hf.iter_lt (per f (α y) - 1) (ha y hy)
  generalize iter f (per f (α y) - 1) (α y) = x at e hx
  have k := H x hx
  rw [e, haa] at k
  rw [k, haa, e]
open Classical in
theorem count_conj_le (hf : Perm N f) (hg : Perm N g) (ha : ∀ x, x < N → α x < N) (haa : ∀ x, α (α x) = x) (H : ∀ x, x < N → g (α (f x)) = α x) (q : Nat → Bool) :
    (List.range N).countP (fun k => leastB f k && q (per f k)) ≤ (List.range N).countP (fun k => leastB g k && q (per g k)) := by
  have ex : ∀ k, k < N → ∃ m, m ≤ α k ∧ Orb g m (α k) ∧ ∀ j, j < m → ¬ Orb g j (α k) := fun k hk => by
    obtain ⟨m, h1, h2, h3⟩ := least_of (P := fun m => Orb g m (α k)) (a := α k) (Orb.refl g (α k))
    exact ⟨m, h1, h2, h3⟩
  obtain ⟨F, hF⟩ : ∃ F : Nat → Nat, ∀ k, k < N → F k ≤ α k ∧ Orb g (F k) (α k) ∧ ∀ j, j < F k → ¬ Orb g j (α k) :=
    ⟨fun k => if h : k < N then Classical.choose (ex k h) else 0, fun k hk => by simp only [dif_pos hk]; exact Classical.choose_spec (ex k hk)⟩
  rw [List.countP_eq_length_filter, List.countP_eq_length_filter, ← List.length_map (f := F)]
  apply List.Nodup.length_le_of_subset
  · rw [List.nodup_iff_pairwise_ne, List.pairwise_map]
    refine List.Pairwise.imp_of_mem ?_ ((List.pairwise_lt_range (n := N)).filter _)
    intro a b h1 h2 hab e
    obtain ⟨h1, l1⟩ := List.mem_filter.1 h1
    obtain ⟨h2, l2⟩ := List.mem_filter.1 h2
    have h1 := List.mem_range.1 h1
    have h2 := List.mem_range.1 h2
    rw [Bool.and_eq_true] at l1 l2
    obtain ⟨_, o1, _⟩ := hF a h1
    obtain ⟨c2, o2, _⟩ := hF b h2
    rw [← e] at o2
    have hm : F a < N := Nat.lt_of_le_of_lt (hF a h1).1 (ha a h1)
    have o := (o1.symm hg hm).trans o2
    obtain ⟨i, hi⟩ := o
    have k := conj_iter hg (conj_back hf ha haa H) i (α a) (ha a h1)
    rw [hi, haa, haa] at k
    exact (tst_iff.1 l2.1) a hab (Orb.symm hf h2 ⟨i, k⟩)
  · intro m hm
    obtain ⟨k, hk, rfl⟩ := List.mem_map.1 hm
    obtain ⟨hk, lk⟩ := List.mem_filter.1 hk
    have hk := List.mem_range.1 hk
    rw [Bool.and_eq_true] at lk
    obtain ⟨c1, o1, c3⟩ := hF k hk
    have hmN : F k < N := Nat.lt_of_le_of_lt c1 (ha k hk)
    refine List.mem_filter.2 ⟨List.mem_range.2 hmN, ?_⟩
    rw [Bool.and_eq_true]
    refine ⟨tst_iff.2 fun j hj o => c3 j hj (o.trans o1), ?_⟩
    rw [← per_orb hg hmN o1, conj_per hf hg ha haa H hk]
    exact lk.2
theorem count_conj (hf : Perm N f) (hg : Perm N g) (ha : ∀ x, x < N → α x < N) (haa : ∀ x, α (α x) = x) (H : ∀ x, x < N → g (α (f x)) = α x) (q : Nat → Bool) :
    (List.range N).countP (fun k => leastB f k && q (per f k)) = (List.range N).countP (fun k => leastB g k && q (per g k)) :=
  Nat.le_antisymm (count_conj_le hf hg ha haa H q) (count_conj_le hg hf ha haa (conj_back hf ha haa H) q)
theorem rows_count (f : Nat → Nat) (N : Nat) (q : Nat → Bool) : (rowsUpto f N).countP (fun l => q l.length) = (List.range N).countP (fun k => leastB f k && q (per f k)) := by
  unfold rowsUpto
  rw [List.countP_map, List.countP_filter]
  refine List.countP_congr fun k _ => ?_
  simp [rowOf, Bool.and_comm]
end

/-- the other way round -/
def mir (rs : List (List Int)) : List (List Int) := rs.map List.reverse
section
variable {n : Int} {es : List (Int × Int)} {rs : List (List Int)}
theorem mir_length : (mir rs).length = rs.length := by simp [mir]
theorem mir_mir : mir (mir rs) = rs := by
  simp only [mir, List.map_map]
  exact (List.map_congr_left (g := id) (fun l _ => List.reverse_reverse l)).trans (List.map_id _)
theorem mir_at {x : Nat} (hx : x < rs.length) : (mir rs)[x]'(by rw [mir_length]; exact hx) = rs[x].reverse := by simp [mir]
theorem mir_right (h : RightP n es rs) : RightP n es (mir rs) := by
  refine ⟨h.may, by rw [mir_length]; exact h.len, fun x hx a ha => ?_, fun x hx => ?_, fun d hd => ?_⟩
  · have hx' : x < rs.length := by rwa [mir_length] at hx
    rw [mir_at hx'] at ha
    exact h.at_ x hx' a (List.mem_reverse.1 ha)
  · have hx' : x < rs.length := by rwa [mir_length] at hx
    rw [mir_at hx']
    exact List.nodup_iff_pairwise_ne.2 (List.pairwise_reverse.2 ((List.nodup_iff_pairwise_ne.1 (h.nd x hx')).imp fun h => h.symm))
  · obtain ⟨x, hx, hm⟩ := h.cov d hd
    exact ⟨x, by rw [mir_length]; exact hx, by rw [mir_at hx]; exact List.mem_reverse.2 hm⟩
theorem rev_getD {l : List Int} {t : Nat} (ht : t < l.length) : l.reverse.getD t 0 = l.getD (l.length - 1 - t) 0 := by
  rw [List.getD_eq_getElem?_getD, List.getD_eq_getElem?_getD, List.getElem?_reverse ht]
theorem sig_mir (h : RightP n es rs) {d : Nat} (hd : d < 2 * es.length) : sig es (mir rs) (sig es rs d) = d := by
  obtain ⟨x, i, hx, hi, e, _⟩ := h.pos hd
  have hx' : x < (mir rs).length := by rw [mir_length]; exact hx
  have e1 := sig_getD h hx hi
  have e0 : rs[x].getD i 0 = (d : Int) := by rw [List.getD_eq_getElem?_getD, List.getElem?_eq_getElem hi]; exact e
  rw [e0, Int.toNat_natCast] at e1
  have hj : (i + 1) % rs[x].length < rs[x].length := Nat.mod_lt _ (by omega)
  have hlen : (mir rs)[x].length = rs[x].length := by rw [mir_at hx, List.length_reverse]
  have ht : rs[x].length - 1 - (i + 1) % rs[x].length < (mir rs)[x].length := by rw [hlen]; omega
  have e2 := sig_getD (mir_right h) hx' ht
  rw [hlen, mir_at hx, rev_getD (by omega), rev_getD (Nat.mod_lt _ (by omega))] at e2
  rw [show rs[x].length - 1 - (rs[x].length - 1 - (i + 1) % rs[x].length) = (i + 1) % rs[x].length by omega, ← e1] at e2
  rw [e2]
  have e3 : rs[x].length - 1 - (rs[x].length - 1 - (i + 1) % rs[x].length + 1) % rs[x].length = i := by
    by_cases hl : i + 1 = rs[x].length
    · rw [hl, Nat.mod_self]
      have : rs[x].length - 1 - 0 + 1 = rs[x].length := by omega
      rw [this, Nat.mod_self]
      omega
    · rw [Nat.mod_eq_of_lt (show i + 1 < rs[x].length by omega)]
      rw [Nat.mod_eq_of_lt (show rs[x].length - 1 - (i + 1) + 1 < rs[x].length by omega)]
      omega
  rw [e3, e0, Int.toNat_natCast]
theorem nxf_mir (h : RightP n es rs) {x : Nat} (hx : x < 2 * es.length) : nxf es (mir rs) (ot (nxf es rs x)) = ot x := by
  have k := sig_mir h (ot_lt hx)
  unfold sig at k
  rw [ot_ot] at k
  exact k
theorem faces_mir (h : RightP n es rs) (q : Nat → Bool) : (facesOf n es rs).countP (fun l => q l.length) = (facesOf n es (mir rs)).countP (fun l => q l.length) := by
  rw [faces_rows h, faces_rows (mir_right h), rows_count, rows_count]
  exact count_conj (nxf_perm h) (nxf_perm (mir_right h)) (fun x hx => ot_lt hx) ot_ot (fun x hx => nxf_mir h hx) q
theorem faces_mir_length (h : RightP n es rs) : (facesOf n es (mir rs)).length = (facesOf n es rs).length := by
  have := faces_mir h (fun _ => true)
  simpa using this.symm
theorem iso_mir : iso (mir rs) = iso rs := by
  unfold iso
  rw [mir_length]
  refine List.countP_congr fun x hx => ?_
  have hx := List.mem_range.1 hx
  rw [getD_row (show x < (mir rs).length by rw [mir_length]; exact hx), getD_row hx, mir_at hx, List.length_reverse]
theorem gen_mir (h : RightP n es rs) : gen n es (mir rs) = gen n es rs := by
  unfold gen
  rw [mir_length, iso_mir, faces_mir_length h]
theorem turned_self (l : List Int) : turnedB l l = true := by
  by_cases hl : l.length = 0
  · have : l = [] := List.eq_nil_of_length_eq_zero hl
    subst this
    rfl
  · exact turned_yes (i := 0) (by omega) (by simp [rot])
theorem sameB_of {xs ys : List (List Int)} (hl : xs.length = ys.length) (h : ∀ i (h1 : i < xs.length) (h2 : i < ys.length), turnedB xs[i] ys[i] = true) : sameB xs ys = true := by
  unfold sameB
  rw [decide_eq_true hl, Bool.true_and, List.all_eq_true]
  intro i hi
  have hi := List.mem_range.1 hi
  rw [getD_row hi, getD_row (show i < ys.length by omega)]
  exact h i hi (by omega)
theorem sameB_self (rs : List (List Int)) : sameB rs rs = true := sameB_of rfl fun i _ _ => turned_self _
/-- a list, begun elsewhere, as far as k -/
def turnL (l : List Int) (t k : Nat) : List Int := (List.range k).map fun i => l.getD ((i + t) % l.length) 0
theorem turnL_succ (l : List Int) (t k : Nat) : turnL l t (k + 1) = turnL l t k ++ [l.getD ((k + t) % l.length) 0] := by simp [turnL, List.range_succ]
theorem turnL_length (l : List Int) (t k : Nat) : (turnL l t k).length = k := by simp [turnL]
theorem turnL_rot {l : List Int} (t : Nat) (hl : 0 < l.length) : rot l (t % l.length) = turnL l t l.length := by
  have ht := Nat.mod_lt t hl
  apply List.ext_getElem
  · rw [rot_length, turnL_length]
  · intro k h1 h2
    rw [rot_length] at h1
    simp only [turnL, List.getElem_map, List.getElem_range, rot]
    have e : (k + t) % l.length = (k + t % l.length) % l.length := by rw [Nat.add_mod, Nat.mod_eq_of_lt h1, Nat.add_mod k (t % l.length), Nat.mod_eq_of_lt h1, Nat.mod_mod]
    rw [e]
    by_cases hk : k < l.length - t % l.length
    · rw [List.getElem_append_left (by rw [List.length_drop]; exact hk), List.getElem_drop]
      rw [Nat.mod_eq_of_lt (show k + t % l.length < l.length by omega)]
      rw [List.getD_eq_getElem?_getD, List.getElem?_eq_getElem (by omega)]
      simp [Nat.add_comm]
    · rw [List.getElem_append_right (by rw [List.length_drop]; omega), List.getElem_take]
      have e2 : (k + t % l.length) % l.length = k - (l.length - t % l.length) := by
        rw [Nat.mod_eq_sub_mod (by omega), Nat.mod_eq_of_lt (by omega)]
        omega
      rw [e2, List.getD_eq_getElem?_getD, List.getElem?_eq_getElem (by omega)]
      simp
theorem turned_turnL (l : List Int) (t : Nat) : turnedB l (turnL l t l.length) = true := by
  by_cases hl : 0 < l.length
  · exact turned_yes (Nat.mod_lt t hl) (turnL_rot t hl)
  · have : l = [] := List.eq_nil_of_length_eq_zero (by omega)
    subst this
    rfl
def otherL (rs : List (List Int)) (t : Nat) : List (List Int) := rs.map fun l => turnL l t l.length
theorem same_other (rs : List (List Int)) (t : Nat) : sameB rs (otherL rs t) = true := sameB_of (by simp [otherL]) fun i h1 h2 => by
  simp only [otherL, List.getElem_map]
  exact turned_turnL _ _
theorem same_more (rs : List (List Int)) (t : Nat) (l : List Int) : sameB rs (otherL rs t ++ [l]) = false := by
  unfold sameB
  rw [decide_eq_false (by simp [otherL])]
  rfl
end
end Go.Proofs.Ytelcofkjpkdjiaa
/-
  slices.Clone, slices.Reverse, rotation.Mirror: what they compute. Written by an AI agent.
-/
namespace Go.Proofs.Ytelcofkjpkdjiaa
open Go.RowKit

theorem elemRot : Elem Try.prog 45 37 (.slice none 0 0) 1 24 := Elem.mk' Try.underlying45 (by kernel_rfl) rfl (by omega)
theorem FacesOwn.rowsC {w : World} {b0 : Nat} {v : Value} {F : List (List Int)} (h : FacesOwn w b0 v F) : ∃ A c, v = .slice A F.length c ∧ RowsC w w.heap.size A F := by
  obtain ⟨sl, h1, h2⟩ := h
  obtain ⟨A, c, rfl⟩ := own_slice h1
  refine ⟨A, c, rfl, fun hn => ?_⟩
  have hsl : sl.length = F.length := by have := h1.1; omega
  obtain ⟨b, off, he, hb, hc⟩ := Cells.of_own h1 (by omega)
  refine ⟨b, off, he, hb, fun i hi => ?_⟩
  obtain ⟨Ai, ci, h3, h4⟩ := h2 i hi
  refine ⟨Ai, ci, hc i _ h3, Cells.of_own h4, ?_⟩
  rcases h4.2 with ⟨h5, h0⟩ | ⟨g, cap, cur, h5, _, _, h6, _⟩
  · injection h5 with _ h5 h7; omega
  · injection h5 with _ _ h5; omega
theorem mir_take_succ {rs : List (List Int)} {i : Nat} (h : i < rs.length) : mir (rs.take (i + 1)) = mir (rs.take i) ++ [rs[i].reverse] := by
  unfold mir
  rw [List.take_succ_eq_append_getElem h, List.map_append]
  rfl

set_option maxRecDepth 20000 in
set_option maxHeartbeats 4000000 in
theorem mirror_any (C : Option Addr) (cc : Nat) (rs : List (List Int)) (w : World) (h : RowsAt w w.heap.size C rs) (hr1 : rs.length ≤ 1000) (hr2 : ∀ l ∈ rs, l.length ≤ 1000) :
    Calls Try.prog 21 #[.slice C rs.length cc] w (fun e w' => ∃ A c, e = .returned (.slice A rs.length c) ∧ Below w.heap.size w w' ∧ RowsC w' w'.heap.size A (mir rs)) := by
  have H := Lib.hid h
  have Hr2 := Lib.hid hr2
  clear h hr2
  go_enter Try.func21, Try.ntmps21
  go_wp2_with fail
  go_loopg [2, 7] rs.length (fun k s2 s7 wr => ∃ i : Nat, s7 = .int .i64 i ∧ i ≤ rs.length ∧ k = rs.length - i ∧ Below w.heap.size w wr ∧ FacesOwn wr w.heap.size s2 (mir (rs.take i)))
  case atStart => exact ⟨0, rfl, Nat.zero_le _, rfl, Below.refl _ _, ⟨[], World.ownsRow_nil _ _ _ _, fun i hi => absurd hi (by simp [mir])⟩⟩
  case round =>
    obtain ⟨i, rfl, hi, hk, kr, hown⟩ := hrel
    have Hk := Lib.hid hk
    have HKr := Lib.hid kr
    have hsw := kr.size
    clear hk kr
    by_cases hlt : i < rs.length
    · have hlt' : (i : Int) < rs.length := by omega
      obtain ⟨b2, o2, rfl, hb2, hc2⟩ := H.out (by omega)
      obtain ⟨Ai, ci, e0, hCi⟩ := hc2 i hlt
      have e0 := (HKr.out.cell (p := ⟨b2, o2 + i, none⟩) hb2).trans e0
      have hCi := Lib.hid ((hCi.below HKr.out).more hsw)
      have hll := Hr2.out _ (List.getElem_mem hlt)
      have HT := Lib.hid (mir_take_succ hlt)
      obtain ⟨sl, ho, h2⟩ := hown
      have hml : (mir (rs.take i)).length = i := by rw [mir_length, List.length_take]; omega
      rw [hml] at ho
      have HML := Lib.hid hml
      have HO := Lib.hid ho
      have H2 := Lib.hid h2
      clear hc2 ho h2 hml
      generalize rs[i] = l at *
      go_wp2_with fail
      refine (clone_any Ai ci l wr hCi.out hll).mono ?_
      rintro e w5 ⟨v5, rfl, hb5, ho5⟩
      obtain ⟨A5, c5, rfl⟩ := own_slice ho5
      have HB5 := Lib.hid hb5
      have HO5 := Lib.hid ho5
      clear hb5 ho5 e0
      go_wp2_with fail
      refine (reverse_any (.slice A5 l.length c5) l wr.heap.size w5 HO5.out hll).mono ?_
      rintro e w6 ⟨rfl, hb6, ho6⟩
      have hb16 := HB5.out.trans hb6
      have how := own_below HO.out hb16 (Nat.le_refl _)
      have HB6 := Lib.hid (HKr.out.trans (hb16.mono hsw))
      have hsz6 : w.heap.size ≤ w6.heap.size := HB6.out.size
      have hb16' := Lib.hid hb16
      have HO6 := Lib.hid ho6
      clear hb6 ho6 hb16
      go_wp2_with (at_builtin; refine wp_app elemRot rfl _ _ rfl w.heap.size u2 _ _ rfl w6.heap.size [.slice A5 l.length c5] rfl rfl how rfl rfl ?h7 ?h8 ?h9 ?_)
      case h7 => omega
      case h8 => omega
      try (case h9 => omega)
      intro v' w' hown' hg' _
      have hb' := below_app HB6.out how hg' hsz6 (Nat.le_refl _)
      have hR' := FacesOwn.push (F := mir (rs.take i)) (f := l.reverse) (A := A5) (c := c5) (by rw [HML.out]; exact how) (fun j hj => by
        obtain ⟨Aj, cj, hs, hoj⟩ := H2.out j hj
        exact ⟨Aj, cj, hs, own_below hoj hb16'.out (Nat.le_refl _)⟩) (by rw [List.length_reverse]; exact own_mono HO6.out hsw) hg' (by rw [HML.out, List.length_reverse]; exact hown')
      rw [← HT.out] at hR'
      have HX := Lib.hid (And.intro hb' hR')
      clear hb' hR' how hown' hg'
      go_wp2_with fail
      go_roundg (rs.length - (i + 1))
      case measure => rw [Hk.out]; omega
      case rel => exact ⟨i + 1, by go_num, by omega, rfl, HX.out.1, HX.out.2⟩
    · have hie : i = rs.length := by omega
      have HF := Lib.hid (show FacesOwn wr w.heap.size u2 (mir rs) by rw [hie, List.take_length] at hown; exact hown)
      clear hown
      go_wp2_with fail
      go_ret
      obtain ⟨A, c, e, hR⟩ := HF.out.rowsC
      rw [mir_length] at e
      subst e
      exact ⟨A, c, rfl, HKr.out, hR⟩
end Go.Proofs.Ytelcofkjpkdjiaa
/-
  A rotation fits just if it does mirrored, and with all edges turned (plain law). Written by an AI agent.
-/
namespace Go.Proofs.Ytelcofkjpkdjiaa
open Go.RowKit

section
variable {n : Int} {es : List (Int × Int)} {rs : List (List Int)}
theorem face_row (hR : RightP n es rs) {f : Nat} (hf : f < (facesOf n es rs).length) : ∃ c, c < 2 * es.length ∧ ∀ x : Nat, (x : Int) ∈ (facesOf n es rs).getD f [] ↔ Orb (nxf es rs) c x := by
  rw [faces_rows hR] at hf ⊢
  obtain ⟨c, hc, _, e, _⟩ := rows_get (nxf es rs) (2 * es.length) hf
  refine ⟨c, hc, fun x => ?_⟩
  rw [e]
  exact row_mem (nxf_perm hR) hc x
theorem angF_orb (hR : RightP n es rs) {h k : Nat} (hh : h < 2 * es.length) (hk : k < 2 * es.length) : angF n es rs h = angF n es rs k ↔ Orb (nxf es rs) (ot h) (ot k) := by
  obtain ⟨hf, hm⟩ := angF_spec hR hh
  obtain ⟨c, hc, hrow⟩ := face_row hR hf
  have h1 := (hrow _).1 hm
  have hP := nxf_perm hR
  constructor
  · intro e
    have h2 := (angF_spec hR hk).2
    rw [← e] at h2
    exact (h1.symm hP hc).trans ((hrow _).1 h2)
  · intro o
    exact ((angF_iff hR hk hf).2 ((hrow _).2 (h1.trans o))).symm
theorem angF_surj (hR : RightP n es rs) {f : Nat} (hf : f < (facesOf n es rs).length) : ∃ h, h < 2 * es.length ∧ angF n es rs h = f := by
  obtain ⟨c, hc, hrow⟩ := face_row hR hf
  refine ⟨ot c, ot_lt hc, (angF_iff hR (ot_lt hc) hf).2 ?_⟩
  rw [ot_ot]
  exact (hrow _).2 (Orb.refl _ _)
end
/-- great angles fit, with some outer face: told of the angles alone -/
def FitO (V Fc Kd : Nat → Nat) (M : Nat) (E : List Nat) : Prop := ∃ k0, k0 < M ∧ ∃ g : Nat → Nat, (∀ x ∈ E, g x < M ∧ V (g x) = x) ∧
  ∀ k, k < M → (if Fc k = Fc k0 then (1 : Int) else -1) + (((List.range M).countP fun h => decide (Kd h = 2) && decide (Fc h = Fc k) : Nat) : Int) = ((E.countP fun x => decide (Fc (g x) = Fc k) : Nat) : Int)
section
variable {V Fc Kd V' Fc' Kd' : Nat → Nat} {M F : Nat} {E E' : List Nat}
theorem roomT_getD {F f0 k f : Nat} (hf : f < F) : (roomT Fc Kd F f0 k).getD f 0 = (if f = f0 then (1 : Int) else -1) + (((List.range k).countP fun h => decide (Kd h = 2) && decide (Fc h = f) : Nat) : Int) := by
  unfold roomT
  rw [List.getD_eq_getElem?_getD, List.getElem?_map, List.getElem?_range hf]
  rfl
theorem fitO_iff (hFc : ∀ h, h < M → Fc h < F) (hs : ∀ f, f < F → ∃ h, h < M ∧ Fc h = f) : (∃ f0, f0 < F ∧ FitG V Fc M E (roomT Fc Kd F f0 M)) ↔ FitO V Fc Kd M E := by
  constructor
  · rintro ⟨f0, hf0, g, h1, h2⟩
    obtain ⟨k0, hk0, rfl⟩ := hs f0 hf0
    refine ⟨k0, hk0, g, h1, fun k hk => ?_⟩
    rw [← h2 (Fc k) (by rw [roomT_length]; exact hFc k hk), roomT_getD (hFc k hk)]
  · rintro ⟨k0, hk0, g, h1, h2⟩
    refine ⟨Fc k0, hFc k0 hk0, g, h1, fun f hf => ?_⟩
    rw [roomT_length] at hf
    obtain ⟨k, hk, rfl⟩ := hs f hf
    rw [← h2 k hk, roomT_getD hf]
theorem fitO_move {α : Nat → Nat} (hα : Perm M α) (hV : ∀ h, h < M → V' (α h) = V h) (hF : ∀ h k, h < M → k < M → (Fc' (α h) = Fc' (α k) ↔ Fc h = Fc k))
    (hK : ∀ k, k < M → ((List.range M).countP fun h => decide (Kd' (α h) = 2) && decide (Fc' (α h) = Fc' (α k))) = (List.range M).countP fun h => decide (Kd h = 2) && decide (Fc h = Fc k))
    (hE : ∀ p : Nat → Bool, E'.countP p = E.countP p) (hm : ∀ x, x ∈ E' → x ∈ E) (h : FitO V Fc Kd M E) : FitO V' Fc' Kd' M E' := by
  obtain ⟨k0, hk0, g, h1, h2⟩ := h
  refine ⟨α k0, hα.lt _ hk0, fun x => α (g x), fun x hx => ?_, fun k' hk' => ?_⟩
  · obtain ⟨a, b⟩ := h1 x (hm x hx)
    exact ⟨hα.lt _ a, (hV _ a).trans b⟩
  · obtain ⟨k, hk, rfl⟩ := perm_surj hα hk'
    rw [← perm_count hα (fun h => decide (Kd' h = 2) && decide (Fc' h = Fc' (α k))), hK k hk, hE]
    have e1 : (if Fc' (α k) = Fc' (α k0) then (1 : Int) else -1) = if Fc k = Fc k0 then 1 else -1 := by
      by_cases h : Fc k = Fc k0
      · rw [if_pos h, if_pos ((hF _ _ hk hk0).2 h)]
      · rw [if_neg h, if_neg fun e => h ((hF _ _ hk hk0).1 e)]
    rw [e1, h2 k hk]
    congr 1
    refine List.countP_congr fun x hx => ?_
    rw [decide_eq_true_eq, decide_eq_true_eq]
    exact (hF _ _ (h1 x hx).1 hk).symm
end
section
variable {n : Int} {es es' : List (Int × Int)} {rs rs' : List (List Int)}
/-- Assign tells something just if the rotation is bimodal and great angles fit -/
theorem assign_iff (h : askA n es rs = true) (he : 0 < es.length) : (assignR n es rs).isSome = true ↔ bimB rs = true ∧ FitO (vtx es) (angF n es rs) (angK es rs) (2 * es.length) (endsL rs.length es) := by
  have hR := ask_right h
  have hFc : ∀ k, k < 2 * es.length → angF n es rs k < (facesOf n es rs).length := fun k hk => (angF_spec hR hk).1
  rw [← fitO_iff hFc fun f hf => angF_surj hR hf]
  have ht : ∀ f0, tryE n es rs f0 = true ↔ FitG (vtx es) (angF n es rs) (2 * es.length) (endsL rs.length es) (roomT (angF n es rs) (angK es rs) (facesOf n es rs).length f0 (2 * es.length)) := fun f0 =>
    try_iff _ _ (ask_ends h he) fun k hk => by unfold roomE; rw [roomT_length]; exact hFc k hk
  unfold assignR
  rw [h, Bool.true_and]
  cases hb : bimB rs with
  | false => simp
  | true =>
    rw [if_pos rfl, if_neg (by omega)]
    rcases least_or (tryE n es rs) (facesOf n es rs).length with ⟨i, hi, h1, h2⟩ | h0
    · have e1 := fitE_try h he i
      rw [h1] at e1
      obtain ⟨G, hG⟩ := Option.isSome_iff_exists.1 e1
      rw [firstF_at hi hG (fun j hj => by
        have e2 := fitE_try h he j
        rw [h2 j hj] at e2
        exact Option.isSome_eq_false_iff.1 e2 |> Option.isNone_iff_eq_none.1)]
      exact ⟨fun _ => ⟨rfl, i, hi, (ht i).1 h1⟩, fun _ => rfl⟩
    · rw [firstF_none (fun j hj => by
        have e2 := fitE_try h he j
        rw [h0 j hj] at e2
        exact Option.isSome_eq_false_iff.1 e2 |> Option.isNone_iff_eq_none.1)]
      refine ⟨fun h => absurd h (by simp), fun ⟨_, f0, hf0, hG⟩ => ?_⟩
      have := (ht f0).2 hG
      rw [h0 f0 hf0] at this
      cases this
theorem plain_move {α : Nat → Nat} (hl : es'.length = es.length) (hα : Perm (2 * es.length) α) (hV : ∀ h, h < 2 * es.length → vtx es' (α h) = vtx es h) (hK : ∀ h, h < 2 * es.length → (angK es' rs' (α h) = 0 ↔ angK es rs h = 0)) (x : Nat) : plainN es' rs' x = plainN es rs x := by
  unfold plainN
  rw [hl, ← perm_count hα (fun k => decide (vtx es' k = x) && decide (angK es' rs' k = 0))]
  refine count_congr fun k hk => ?_
  rw [hV k hk]
  congr 1
  rw [Bool.eq_iff_iff, decide_eq_true_eq, decide_eq_true_eq]
  exact hK k hk
theorem bim_move {α : Nat → Nat} (h : RightP n es rs) (h' : RightP n es' rs') (hl : es'.length = es.length) (hα : Perm (2 * es.length) α) (hV : ∀ h, h < 2 * es.length → vtx es' (α h) = vtx es h) (hK : ∀ h, h < 2 * es.length → (angK es' rs' (α h) = 0 ↔ angK es rs h = 0)) : bimB rs' = bimB rs := by
  have hr : rs'.length = rs.length := by have := h.len; have := h'.len; omega
  rw [Bool.eq_iff_iff, bim_iff h', bim_iff h, hr]
  constructor
  · intro hh x hx
    rw [← plain_move hl hα hV hK x]
    exact hh x hx
  · intro hh x hx
    rw [plain_move hl hα hV hK x]
    exact hh x hx
/-- the other way round -/
theorem ask_mir (h : askA n es rs = true) : askA n es (mir rs) = true := by
  have hR := ask_right h
  have h3 := h
  unfold askA at h3 ⊢
  simp only [Bool.and_eq_true, decide_eq_true_eq] at h3 ⊢
  rw [mir_length, gen_mir hR]
  exact ⟨right_iff.2 (mir_right hR), h3.2⟩
theorem kindF_comm (a b : Nat) : kindF a b = kindF b a := by
  rcases Nat.mod_two_eq_zero_or_one a with h | h <;> rcases Nat.mod_two_eq_zero_or_one b with k | k <;> simp [kindF, h, k]
theorem angK_mir (h : RightP n es rs) {k : Nat} (hk : k < 2 * es.length) : angK es (mir rs) (sig es rs k) = angK es rs k := by
  unfold angK
  rw [sig_mir h hk, kindF_comm]
theorem conj_orb {N : Nat} {f g α : Nat → Nat} (hf : Perm N f) (H : ∀ x, x < N → g (α (f x)) = α x) {x y : Nat} (hx : x < N) (o : Orb f x y) : Orb g (α y) (α x) := by
  obtain ⟨i, rfl⟩ := o
  exact ⟨i, conj_iter hf H i x hx⟩
theorem angF_mir (h : RightP n es rs) {k l : Nat} (hk : k < 2 * es.length) (hl : l < 2 * es.length) : angF n es (mir rs) (sig es rs k) = angF n es (mir rs) (sig es rs l) ↔ angF n es rs k = angF n es rs l := by
  have hm := mir_right h
  have hP := nxf_perm h
  have hs := sig_perm h
  have hok := ot_lt (m := es.length) hk
  have hol := ot_lt (m := es.length) hl
  rw [angF_orb hm (hs.lt _ hk) (hs.lt _ hl), angF_orb h hk hl]
  have H : ∀ x, x < 2 * es.length → nxf es (mir rs) (ot (nxf es rs x)) = ot x := fun x hx => nxf_mir h hx
  have sk : Orb (nxf es rs) (ot k) (sig es rs k) := Orb.step _ _
  have sl : Orb (nxf es rs) (ot l) (sig es rs l) := Orb.step _ _
  constructor
  · intro o
    have H2 := conj_back hP (fun x hx => ot_lt hx) ot_ot H
    have o2 := conj_orb (nxf_perm hm) H2 (ot_lt (hs.lt _ hk)) o
    rw [ot_ot, ot_ot] at o2
    exact sk.trans ((o2.symm hP (hs.lt _ hl)).trans (sl.symm hP hol))
  · intro o
    have o2 : Orb (nxf es rs) (sig es rs l) (sig es rs k) := (sl.symm hP hol).trans ((o.symm hP hok).trans sk)
    exact conj_orb hP H (hs.lt _ hl) o2
theorem bim_mir (h : RightP n es rs) : bimB (mir rs) = bimB rs :=
  bim_move h (mir_right h) rfl (sig_perm h) (fun k hk => (vtx_sig h hk).2) fun k hk => by rw [angK_mir h hk]
theorem fit_mir (h : RightP n es rs) (hf : FitO (vtx es) (angF n es rs) (angK es rs) (2 * es.length) (endsL rs.length es)) : FitO (vtx es) (angF n es (mir rs)) (angK es (mir rs)) (2 * es.length) (endsL (mir rs).length es) := by
  rw [mir_length]
  refine fitO_move (sig_perm h) (fun k hk => (vtx_sig h hk).2) (fun k l hk hl => angF_mir h hk hl) (fun k hk => count_congr fun l hl => ?_) (fun _ => rfl) (fun _ h => h) hf
  rw [angK_mir h hl]
  congr 1
  rw [Bool.eq_iff_iff, decide_eq_true_eq, decide_eq_true_eq]
  exact angF_mir h hl hk
theorem assign_mir (h : askA n es rs = true) : (assignR n es (mir rs)).isSome = (assignR n es rs).isSome := by
  by_cases he : es.length = 0
  · rw [ask_assign0 h he, ask_assign0 (ask_mir h) he]
  · have hR := ask_right h
    rw [Bool.eq_iff_iff, assign_iff h (by omega), assign_iff (ask_mir h) (by omega), bim_mir hR]
    refine and_congr_right fun _ => ⟨fun hf => ?_, fit_mir hR⟩
    have := fit_mir (mir_right hR) hf
    rwa [mir_mir] at this
end
end Go.Proofs.Ytelcofkjpkdjiaa
/-
  A rotation fits just if it does with all edges turned (plain law). Written by an AI agent.
-/
namespace Go.Proofs.Ytelcofkjpkdjiaa
open Go.RowKit

def flipE (es : List (Int × Int)) : List (Int × Int) := es.map fun e => (e.2, e.1)
def flipL (l : List Int) : List Int := l.map fun a => ((ot a.toNat : Nat) : Int)
def flipR (rs : List (List Int)) : List (List Int) := rs.map flipL
theorem flipE_length (es : List (Int × Int)) : (flipE es).length = es.length := by simp [flipE]
theorem flipR_length (rs : List (List Int)) : (flipR rs).length = rs.length := by simp [flipR]
theorem flipL_length (l : List Int) : (flipL l).length = l.length := by simp [flipL]
theorem flipE_getD (es : List (Int × Int)) (i : Nat) : (flipE es).getD i (0, 0) = ((es.getD i (0, 0)).2, (es.getD i (0, 0)).1) := by
  unfold flipE
  rw [List.getD_eq_getElem?_getD, List.getD_eq_getElem?_getD, List.getElem?_map]
  cases es[i]? <;> rfl
theorem flipE_flip (es : List (Int × Int)) : flipE (flipE es) = es := by
  unfold flipE
  rw [List.map_map]
  exact List.map_id'' (fun _ => rfl) es
theorem flip_mem {es : List (Int × Int)} {e : Int × Int} : e ∈ flipE es ↔ (e.2, e.1) ∈ es := by
  unfold flipE
  rw [List.mem_map]
  constructor
  · rintro ⟨a, ha, rfl⟩; exact ha
  · intro h; exact ⟨_, h, rfl⟩
theorem badE_flip (n : Int) (e : Int × Int) : badE n (e.2, e.1) = badE n e := by
  unfold badE
  exact Bool.or_comm _ _
theorem mayB_flip (n : Int) (es : List (Int × Int)) : mayB n (flipE es) = mayB n es := by
  unfold mayB
  rw [flipE_length]
  congr 2
  unfold anyB
  congr 1
  funext i
  rw [flipE_getD]
  exact badE_flip n (es.getD i (0, 0))
theorem atE_flip (es : List (Int × Int)) (h : Nat) : atE (flipE es) (ot h) = atE es h := by
  unfold atE
  rw [flipE_getD, ot_mod]
  have e : ot h / 2 = h / 2 := by unfold ot; split <;> omega
  rw [e]
  rcases Nat.mod_two_eq_zero_or_one h with k | k <;> simp [k]
theorem vtx_flip (es : List (Int × Int)) (h : Nat) : vtx (flipE es) (ot h) = vtx es h := by unfold vtx; rw [atE_flip]
theorem nodup_map_on {α β : Type} {f : α → β} {l : List α} (h : l.Nodup) (hf : ∀ a ∈ l, ∀ b ∈ l, f a = f b → a = b) : (l.map f).Nodup :=
  List.pairwise_map.2 (h.imp_of_mem fun ha hb hne e => hne (hf _ ha _ hb e))
section
variable {n : Int} {es : List (Int × Int)} {rs : List (List Int)}
theorem flipR_at {x : Nat} (hx : x < rs.length) : (flipR rs)[x]'(by rw [flipR_length]; exact hx) = flipL rs[x] := by simp [flipR]
theorem mem_flipL {l : List Int} {a : Int} : a ∈ flipL l ↔ ∃ b ∈ l, ((ot b.toNat : Nat) : Int) = a := by unfold flipL; rw [List.mem_map]
theorem flip_right (h : RightP n es rs) : RightP n (flipE es) (flipR rs) := by
  refine ⟨by rw [mayB_flip]; exact h.may, by rw [flipR_length]; exact h.len, fun x hx a ha => ?_, fun x hx => ?_, fun k hk => ?_⟩
  · rw [flipR_length] at hx
    rw [flipR_at hx, mem_flipL] at ha
    obtain ⟨b, hb, rfl⟩ := ha
    obtain ⟨h1, h2, h3⟩ := h.at_ x hx b hb
    rw [flipE_length]
    have h4 : ot b.toNat < 2 * es.length := ot_lt (by omega)
    refine ⟨by omega, by omega, ?_⟩
    rw [Int.toNat_natCast, atE_flip]
    exact h3
  · rw [flipR_length] at hx
    rw [flipR_at hx]
    unfold flipL
    refine nodup_map_on (h.nd x hx) ?_
    intro a ha b hb e
    have h1 := (h.at_ x hx a ha).1
    have h2 := (h.at_ x hx b hb).1
    have : ot a.toNat = ot b.toNat := by omega
    have := ot_inj this
    omega
  · rw [flipE_length] at hk
    obtain ⟨x, hx, hm⟩ := h.cov (ot k) (ot_lt hk)
    refine ⟨x, by rw [flipR_length]; exact hx, ?_⟩
    rw [flipR_at hx, mem_flipL]
    exact ⟨_, hm, by rw [Int.toNat_natCast, ot_ot]⟩
theorem flipL_getD {l : List Int} {t : Nat} (ht : t < l.length) : (flipL l).getD t 0 = ((ot (l.getD t 0).toNat : Nat) : Int) := by
  unfold flipL
  rw [List.getD_eq_getElem?_getD, List.getElem?_map, List.getElem?_eq_getElem ht, List.getD_eq_getElem?_getD, List.getElem?_eq_getElem ht]
  rfl
theorem sig_flip (h : RightP n es rs) {d : Nat} (hd : d < 2 * es.length) : sig (flipE es) (flipR rs) (ot d) = ot (sig es rs d) := by
  obtain ⟨x, i, hx, hi, e, _⟩ := h.pos hd
  have e0 : rs[x].getD i 0 = (d : Int) := by rw [List.getD_eq_getElem?_getD, List.getElem?_eq_getElem hi]; exact e
  have e1 := sig_getD h hx hi
  rw [e0, Int.toNat_natCast] at e1
  have hx' : x < (flipR rs).length := by rw [flipR_length]; exact hx
  have hi' : i < (flipR rs)[x].length := by rw [flipR_at hx, flipL_length]; exact hi
  have e2 := sig_getD (flip_right h) hx' hi'
  have hj : (i + 1) % rs[x].length < rs[x].length := Nat.mod_lt _ (by omega)
  rw [flipR_at hx, flipL_length, flipL_getD hi, flipL_getD hj, e0, Int.toNat_natCast, Int.toNat_natCast, Int.toNat_natCast] at e2
  rw [e2, e1]
theorem nxf_flip (h : RightP n es rs) {k : Nat} (hk : k < 2 * es.length) : nxf (flipE es) (flipR rs) (ot k) = ot (nxf es rs k) := by
  have h1 := sig_flip h (ot_lt hk)
  rw [sig_ot, sig_ot] at h1
  exact h1
theorem iter_flip (h : RightP n es rs) : ∀ (i k : Nat), k < 2 * es.length → iter (nxf (flipE es) (flipR rs)) i (ot k) = ot (iter (nxf es rs) i k)
  | 0, _, _ => rfl
  | i + 1, k, hk => by
    show iter (nxf (flipE es) (flipR rs)) i (nxf (flipE es) (flipR rs) (ot k)) = ot (iter (nxf es rs) i (nxf es rs k))
    rw [nxf_flip h hk]
    exact iter_flip h i _ ((nxf_perm h).lt _ hk)
theorem orb_flip (h : RightP n es rs) {k l : Nat} (hk : k < 2 * es.length) : Orb (nxf (flipE es) (flipR rs)) (ot k) (ot l) ↔ Orb (nxf es rs) k l := by
  constructor
  · rintro ⟨i, hi⟩
    rw [iter_flip h i k hk] at hi
    exact ⟨i, ot_inj hi⟩
  · rintro ⟨i, rfl⟩
    exact ⟨i, iter_flip h i k hk⟩
theorem angF_flip (h : RightP n es rs) {k l : Nat} (hk : k < 2 * es.length) (hl : l < 2 * es.length) : angF n (flipE es) (flipR rs) (ot k) = angF n (flipE es) (flipR rs) (ot l) ↔ angF n es rs k = angF n es rs l := by
  rw [angF_orb (flip_right h) (by rw [flipE_length]; exact ot_lt hk) (by rw [flipE_length]; exact ot_lt hl), angF_orb h hk hl]
  exact orb_flip h (ot_lt hk)
theorem angK_flip (h : RightP n es rs) {k : Nat} (hk : k < 2 * es.length) : angK (flipE es) (flipR rs) (ot k) = kindF (ot k) (ot (sig es rs k)) := by
  unfold angK
  rw [sig_flip h hk]
theorem kindF_ot (a b : Nat) : kindF (ot a) (ot b) = if kindF a b = 1 then 2 else if kindF a b = 2 then 1 else 0 := by
  unfold kindF
  rw [ot_mod, ot_mod]
  rcases Nat.mod_two_eq_zero_or_one a with h | h <;> rcases Nat.mod_two_eq_zero_or_one b with k | k <;> simp [h, k]
theorem angK_flip2 (h : RightP n es rs) {k : Nat} (hk : k < 2 * es.length) : angK (flipE es) (flipR rs) (ot k) = if angK es rs k = 1 then 2 else if angK es rs k = 2 then 1 else 0 := by
  rw [angK_flip h hk, kindF_ot]
  rfl
theorem ot_permF (m : Nat) : Perm (2 * m) ot := ot_perm m
theorem bim_flip (h : RightP n es rs) : bimB (flipR rs) = bimB rs :=
  bim_move h (flip_right h) (flipE_length es) (ot_perm es.length) (fun k _ => vtx_flip es k) fun k hk => by
    have h2 : angK es rs k ≤ 2 := by unfold angK kindF; split <;> (try split) <;> omega
    rw [angK_flip2 h hk]
    constructor
    · intro e
      split at e
      · cases e
      · split at e
        · cases e
        · omega
    · intro e
      rw [e]
      rfl
theorem hasOdd_flip {x : Nat} : hasOdd (flipE es) x ↔ hasEven es x := by
  constructor
  · rintro ⟨k, hk, hv, he⟩
    rw [flipE_length] at hk
    refine ⟨ot k, ot_lt hk, ?_, by rw [ev_ot, he]; rfl⟩
    rw [← hv, ← vtx_flip es (ot k), ot_ot]
  · rintro ⟨k, hk, hv, he⟩
    refine ⟨ot k, by rw [flipE_length]; exact ot_lt hk, ?_, by rw [ev_ot, he]; rfl⟩
    rw [vtx_flip]; exact hv
theorem hasEven_flip {x : Nat} : hasEven (flipE es) x ↔ hasOdd es x := by
  have := hasOdd_flip (es := flipE es) (x := x)
  rw [flipE_flip] at this
  exact this.symm
theorem InN.flip {N : Nat} (h : InN N es) : InN N (flipE es) := fun e he => by
  have := h _ (flip_mem.1 he)
  exact ⟨this.2.2.1, this.2.2.2, this.1, this.2.1⟩
theorem ends_flip {N : Nat} (hin : InN N es) {x : Nat} : x ∈ endsL N (flipE es) ↔ x ∈ endsL N es := by
  unfold endsL
  rw [List.mem_append, List.mem_append, mem_src hin, mem_snk hin, mem_src hin.flip, mem_snk hin.flip, hasOdd_flip, hasEven_flip]
  exact Or.comm
theorem edge_flip {c : Nat → Bool} {x y : Nat} (h : Edge1 true c es x y) : Edge1 true c (flipE es) x y := by
  obtain ⟨i, hi, hc, h⟩ := h
  have e : (flipE es)[i]'(by rw [flipE_length]; exact hi) = (es[i].2, es[i].1) := by simp [flipE]
  refine ⟨i, by rw [flipE_length]; exact hi, hc, ?_⟩
  rw [e]
  rcases h with h | ⟨_, h⟩
  · exact .inr ⟨rfl, by rw [h]⟩
  · exact .inl (by rw [h])
theorem Q_flip {x y : Nat} : Q (flipE es) (flipE es).length x y ↔ Q es es.length x y := by
  rw [flipE_length]
  unfold Q
  constructor
  · intro h
    refine Star.mono (fun a b e => ?_) h
    have := edge_flip e
    rw [flipE_flip] at this
    exact this
  · exact fun h => Star.mono (fun a b e => edge_flip e) h
theorem faces_flip (h : RightP n es rs) : (facesOf n (flipE es) (flipR rs)).length = (facesOf n es rs).length := by
  have h2 := flip_right h
  rw [← faces_mir_length h2]
  have hm := mir_right h2
  have H : ∀ x, x < 2 * es.length → nxf (flipE es) (mir (flipR rs)) (id (nxf es rs x)) = id x := fun x hx => by
    have h3 := nxf_mir h2 (x := ot x) (by rw [flipE_length]; exact ot_lt hx)
    rw [nxf_flip h hx, ot_ot, ot_ot] at h3
    exact h3
  have hg := nxf_perm hm
  rw [flipE_length] at hg
  have hc := count_conj (nxf_perm h) hg (fun x hx => hx) (fun _ => rfl) H fun _ => true
  have r1 := rows_count (nxf es rs) (2 * es.length) fun _ => true
  have r2 := rows_count (nxf (flipE es) (mir (flipR rs))) (2 * es.length) fun _ => true
  have r3 := r1.trans (hc.trans r2.symm)
  rw [faces_rows h, faces_rows hm, flipE_length]
  simpa using r3.symm
theorem iso_flip : iso (flipR rs) = iso rs := by
  unfold iso
  rw [flipR_length]
  refine List.countP_congr fun x hx => ?_
  have hx := List.mem_range.1 hx
  rw [List.getD_eq_getElem?_getD, List.getElem?_eq_getElem (by rw [flipR_length]; exact hx), List.getD_eq_getElem?_getD, List.getElem?_eq_getElem hx]
  simp [flipR, flipL]
theorem gen_flip (h : RightP n es rs) : gen n (flipE es) (flipR rs) = gen n es rs := by
  unfold gen
  rw [flipR_length, iso_flip, faces_flip h, cls_congr (S := Q es es.length) (fun x y _ _ => Q_flip), flipE_length]
/-- an order of all vertices is told just where the edges rise along something -/
theorem runF_or {N : Nat} : ∀ (f : Nat) (out : List Int), nextF es N (runF es N f out) = none ∨ (runF es N f out).length = out.length + f
  | 0, _ => .inr rfl
  | f + 1, out => by
    unfold runF
    cases hx : nextF es N out with
    | none => exact .inl hx
    | some x =>
      rcases runF_or (N := N) f (out ++ [(x : Int)]) with h | h
      · exact .inl h
      · right
        simp only
        rw [h]
        simp
        omega
theorem nodup_sub_len : ∀ {l l' : List Int}, l.Nodup → (∀ a ∈ l, a ∈ l') → l.length ≤ l'.length
  | [], _, _, _ => Nat.zero_le _
  | a :: l, l', h, hs => by
    obtain ⟨h1, h2⟩ := List.nodup_cons.1 h
    have ha := hs a (by simp)
    have := nodup_sub_len (l' := l'.erase a) h2 fun b hb => (List.mem_erase_of_ne (fun e => h1 (by rw [← e]; exact hb))).2 (hs b (by simp [hb]))
    rw [List.length_erase_of_mem ha] at this
    have hp := List.length_pos_of_mem ha
    rw [List.length_cons]
    omega
theorem all_length {N : Nat} {out : List Int} (h : ∀ x, x < N → (x : Int) ∈ out) : N ≤ out.length := by
  have h1 : ((List.range N).map fun x : Nat => (x : Int)).Nodup := nodup_map_on List.nodup_range fun a _ b _ e => by omega
  have h2 := nodup_sub_len h1 (l' := out) fun a ha => by
    obtain ⟨x, hx, rfl⟩ := List.mem_map.1 ha
    exact h x (List.mem_range.1 hx)
  simpa using h2
theorem ord_of_rank {N : Nat} (hin : InN N es) (L : Nat → Nat) (hL : ∀ e ∈ es, L e.1.toNat < L e.2.toNat) : ordB N es = true := by
  have ho := orderF_ord es N
  unfold ordB
  rw [decide_eq_true_eq]
  rcases runF_or (es := es) (N := N) N [] with h | h
  · refine Nat.le_antisymm ho.le (all_length fun x hx => ?_)
    apply Classical.byContradiction
    intro hno
    obtain ⟨m, _, ⟨y, hy, hny, rfl⟩, hmin⟩ := least_of (P := fun k => ∃ y, y < N ∧ (y : Int) ∉ orderF es N ∧ L y = k) ⟨x, hx, hno, rfl⟩
    have hn : nextF es N (orderF es N) = none := h
    unfold nextF at hn
    rw [List.find?_eq_none] at hn
    refine hn y (List.mem_range.2 hy) (nextOk_iff.2 ⟨hny, fun e he h2 => ?_⟩)
    apply Classical.byContradiction
    intro hno2
    have hb := hin e he
    have h1 := hL e he
    rw [h2] at h1
    refine hmin (L e.1.toNat) (by simpa using h1) ⟨e.1.toNat, by omega, ?_, rfl⟩
    rw [Int.toNat_of_nonneg hb.1]
    exact hno2
  · show (runF es N N []).length = N
    rw [h]
    simp
theorem rank_of_ord {N : Nat} (hin : InN N es) (h : ordB N es = true) : ∃ L : Nat → Nat, ∀ e ∈ es, L e.1.toNat < L e.2.toNat := by
  unfold ordB at h
  rw [decide_eq_true_eq] at h
  have hl := levF_lev (show EdgesIn N es from hin) h
  refine ⟨fun v => ((levF N es).getD v 0).toNat, fun e he => ?_⟩
  have h1 := hl.up e he
  have h2 := hl.nn e.1.toNat
  simp only at h1 h2 ⊢
  omega
theorem rank_bound {N : Nat} (hin : InN N es) (L : Nat → Nat) : ∃ B, ∀ e ∈ es, L e.1.toNat ≤ B ∧ L e.2.toNat ≤ B := by
  have : ∀ k, ∃ B, ∀ v, v < k → L v ≤ B := by
    intro k
    induction k with
    | zero => exact ⟨0, fun v h => absurd h (Nat.not_lt_zero _)⟩
    | succ k ih =>
      obtain ⟨B, hB⟩ := ih
      refine ⟨max B (L k), fun v hv => ?_⟩
      by_cases e : v = k
      · subst e; omega
      · have := hB v (by omega); omega
  obtain ⟨B, hB⟩ := this N
  refine ⟨B, fun e he => ?_⟩
  have := hin e he
  exact ⟨hB _ (by omega), hB _ (by omega)⟩
theorem ord_flip1 {N : Nat} (hin : InN N es) (h : ordB N es = true) : ordB N (flipE es) = true := by
  obtain ⟨L, hL⟩ := rank_of_ord hin h
  obtain ⟨B, hB⟩ := rank_bound hin L
  refine ord_of_rank hin.flip (fun v => B - L v) fun e he => ?_
  have h1 := hL _ (flip_mem.1 he)
  have h2 := hB _ (flip_mem.1 he)
  simp only at h1 h2 ⊢
  omega
theorem ask_flip (h : askA n es rs = true) : askA n (flipE es) (flipR rs) = true := by
  have hR := ask_right h
  have h3 := h
  unfold askA at h3 ⊢
  simp only [Bool.and_eq_true, decide_eq_true_eq] at h3 ⊢
  rw [flipR_length, gen_flip hR, cls_congr (S := Q es es.length) (fun x y _ _ => Q_flip)]
  exact ⟨right_iff.2 (flip_right hR), h3.2.1, ord_flip1 (right_inN hR) h3.2.2.1, h3.2.2.2⟩
theorem flipR_flip (h : RightP n es rs) : flipR (flipR rs) = rs := by
  apply List.ext_getElem
  · simp [flipR]
  · intro i h1 h2
    rw [flipR_at (rs := flipR rs) (by rw [flipR_length]; exact h2), flipR_at h2]
    unfold flipL
    rw [List.map_map]
    refine (List.map_congr_left fun a ha => ?_).trans (List.map_id _)
    have := (h.at_ i h2 a ha).1
    show ((ot ((ot a.toNat : Nat) : Int).toNat : Nat) : Int) = a
    rw [Int.toNat_natCast, ot_ot]
    omega
theorem count_ends {N : Nat} {E E' : List Nat} (h1 : E.Nodup) (h2 : E'.Nodup) (hE : ∀ x ∈ E, x < N) (hE' : ∀ x ∈ E', x < N) (hm : ∀ x, x ∈ E' ↔ x ∈ E) (p : Nat → Bool) : E'.countP p = E.countP p := by
  rw [nodup_count h1 hE, nodup_count h2 hE']
  refine count_congr fun x _ => ?_
  congr 1
  rw [Bool.eq_iff_iff, decide_eq_true_eq, decide_eq_true_eq]
  exact hm x
theorem fit_flip (h : askA n es rs = true) (he : 0 < es.length) (hf : FitO (vtx es) (angF n es rs) (angK es rs) (2 * es.length) (endsL rs.length es)) : FitO (vtx (flipE es)) (angF n (flipE es) (flipR rs)) (angK (flipE es) (flipR rs)) (2 * (flipE es).length) (endsL (flipR rs).length (flipE es)) := by
  have hR := ask_right h
  have hin := right_inN hR
  have h2 := ask_ends (ask_flip h) (by rw [flipE_length]; exact he)
  rw [flipR_length] at h2
  rw [flipR_length, flipE_length]
  refine fitO_move (ot_perm es.length) (fun k _ => vtx_flip es k) (fun k l hk hl => angF_flip hR hk hl) (fun k hk => ?_) (count_ends (ask_ends h he) h2 (fun x hx => endsL_lt hx) (fun x hx => endsL_lt hx) fun x => ends_flip hin) (fun x hx => (ends_flip hin).1 hx) hf
  have hlh := low_high hR (angF n es rs k)
  rw [show (fun h => decide (angK es rs h = 2) && decide (angF n es rs h = angF n es rs k)) = fun h => decide (angF n es rs h = angF n es rs k) && decide (angK es rs h = 2) from funext fun _ => Bool.and_comm _ _, ← hlh]
  refine count_congr fun l hl => ?_
  rw [Bool.and_comm, angK_flip2 hR hl]
  congr 1
  · rw [Bool.eq_iff_iff, decide_eq_true_eq, decide_eq_true_eq]
    exact angF_flip hR hl hk
  · rw [Bool.eq_iff_iff, decide_eq_true_eq, decide_eq_true_eq]
    constructor
    · intro e
      split at e
      · assumption
      · split at e <;> cases e
    · intro e
      rw [if_pos e]
theorem assign_flip (h : askA n es rs = true) : (assignR n (flipE es) (flipR rs)).isSome = (assignR n es rs).isSome := by
  by_cases he : es.length = 0
  · rw [ask_assign0 h he, ask_assign0 (ask_flip h) (by rw [flipE_length]; exact he)]
  · have hR := ask_right h
    have hl := flipE_length es
    rw [Bool.eq_iff_iff, assign_iff h (by omega), assign_iff (ask_flip h) (by omega), bim_flip hR]
    refine and_congr_right fun _ => ⟨fun hf => ?_, fit_flip h (by omega)⟩
    have := fit_flip (ask_flip h) (by omega) hf
    rwa [flipE_flip, flipR_flip hR] at this
end
end Go.Proofs.Ytelcofkjpkdjiaa
/-
  Regions that draw their order: operations behind a guard. Written by an AI agent.
-/
namespace Go.Proofs.Ytelcofkjpkdjiaa
open Go.RowKit

theorem pgo_g {P : Program} {ops : Array Oper} {E : Nat → World → World → Prop} {W : List Nat → World → World → Prop} {b : Array Nat} {cls : List Nat} {Fs : List PSpec} {w0 : World} {us : Nat → Value} {o : Oper} {rest : List Oper} {i : Nat} {a : Act} (s : PSpec) (j d : Nat) (want : Bool)
    (hg : o.guard = some (j, want)) (hd : (ops[j]?).bind (·.dst) = some d) (hs : Fs[i]? = some s) (hsz : d < a.tmps.size) (he : ∀ w, PHold Fs us w s.uses → a.eval (.tmp d) = .bool want)
    (h : ∀ (K : Act → World → Prop) (w : World), W (R3.ahead ops.size cls b i) w0 w → PHold Fs us w s.uses → (∀ v w', E (cls.getD i 0) w w' → s.F us v w' → K (a.put o.dst v) w') → o.wp P a w K (fun _ _ _ => False))
    (hr : R3.PGo P ops E W b cls Fs w0 us rest (i + 1) (a.put o.dst (us i))) : R3.PGo P ops E W b cls Fs w0 us (o :: rest) i a := by
  refine ⟨?_, hr⟩
  unfold R3.PStep
  rw [hs]
  intro w hw hu
  have hy : yielded ops a.tmps j = some want := by
    have h1 : a.tmps.getD d undef = .bool want := he w hu
    have h2 : a.tmps[d]? = some (.bool want) := by
      rw [Array.getElem?_eq_getElem hsz]
      rw [Array.getD_eq_getD_getElem?, Array.getElem?_eq_getElem hsz] at h1
      exact congrArg some h1
    unfold yielded
    rw [hd]
    simp only [Option.bind_some, h2]
  rw [if_pos (by unfold Region.wanted; rw [hg]; simp only [hy, BEq.rfl])]
  exact h _ w hw hu fun v w' hE hF => ⟨v, rfl, hE, hF⟩
theorem pgo_gval {P : Program} {ops : Array Oper} {E : Nat → World → World → Prop} {W : List Nat → World → World → Prop} {b : Array Nat} {cls : List Nat} {Fs : List PSpec} {w0 : World} {us : Nat → Value} {o : Oper} {rest : List Oper} {i : Nat} {a : Act} (s : PSpec) (j d : Nat) (want : Bool)
    (hg : o.guard = some (j, want)) (hd : (ops[j]?).bind (·.dst) = some d) (hs : Fs[i]? = some s) (hsz : d < a.tmps.size) (he : ∀ w, PHold Fs us w s.uses → a.eval (.tmp d) = .bool want)
    (h : ∀ (w : World), W (R3.ahead ops.size cls b i) w0 w → PHold Fs us w s.uses → ∃ v w', (execOp a.eval o).run P w = .ok (.value v) w' ∧ E (cls.getD i 0) w w' ∧ s.F us v w')
    (hr : R3.PGo P ops E W b cls Fs w0 us rest (i + 1) (a.put o.dst (us i))) : R3.PGo P ops E W b cls Fs w0 us (o :: rest) i a :=
  pgo_g s j d want hg hd hs hsz he (fun _ w hw hu hK => by
    obtain ⟨v, w', h1, h2, h3⟩ := h w hw hu
    exact wpo_value h1 (hK v w' h2 h3)) hr
theorem pgo_gcall {P : Program} {ops : Array Oper} {E : Nat → World → World → Prop} {W : List Nat → World → World → Prop} {b : Array Nat} {cls : List Nat} {Fs : List PSpec} {w0 : World} {us : Nat → Value} {o : Oper} {rest : List Oper} {i : Nat} {a : Act} (s : PSpec) (j d : Nat) (want : Bool)
    (hg : o.guard = some (j, want)) (hd : (ops[j]?).bind (·.dst) = some d) (hs : Fs[i]? = some s) (hsz : d < a.tmps.size) (he : ∀ w, PHold Fs us w s.uses → a.eval (.tmp d) = .bool want) (f : FuncId) (args : Array Value)
    (h : ∀ (w : World), W (R3.ahead ops.size cls b i) w0 w → PHold Fs us w s.uses → (execOp a.eval o).run P w = .ok (.enter f args) w ∧ Calls P f args w fun e w'' => ∃ v, e = .returned v ∧ E (cls.getD i 0) w w'' ∧ s.F us v w'')
    (hr : R3.PGo P ops E W b cls Fs w0 us rest (i + 1) (a.put o.dst (us i))) : R3.PGo P ops E W b cls Fs w0 us (o :: rest) i a :=
  pgo_g s j d want hg hd hs hsz he (fun _ w hw hu hK => by
    obtain ⟨h1, h2⟩ := h w hw hu
    exact wpo_call h1 (h2.mono fun e w'' ⟨v, he, hE, hF⟩ => ⟨v, he, hK v w'' hE hF⟩)) hr

end Go.Proofs.Ytelcofkjpkdjiaa
