import Derived.Test.YtelcofkjpkdjiaaGreatZOutFit
import Derived.Test.YtelcofkjpkdjiaaGreatZVw
import Derived.Test.YtelcofkjpkdjiaaGreatZPtM
/-
  forest.Outers' faces are just those that the web tells; those just where great angles fit (plain law). Written by an AI agent.
-/
namespace Go.Proofs.YtelcofkjpkdjiaaGreat
open Go.RowKit

/-- rising lists of the same things are one -/
theorem rising_eq : ∀ {a b : List Int}, a.Pairwise (· < ·) → b.Pairwise (· < ·) → (∀ x, x ∈ a ↔ x ∈ b) → a = b
  | [], [], _, _, _ => rfl
  | [], y :: b, _, _, h => absurd ((h y).2 (by simp)) (by simp)
  | x :: a, [], _, _, h => absurd ((h x).1 (by simp)) (by simp)
  | x :: a, y :: b, ha, hb, h => by
    obtain ⟨ha1, ha2⟩ := List.pairwise_cons.1 ha
    obtain ⟨hb1, hb2⟩ := List.pairwise_cons.1 hb
    have hxy : x = y := by
      rcases List.mem_cons.1 ((h x).1 (by simp)) with e | e
      · exact e
      · rcases List.mem_cons.1 ((h y).2 (by simp)) with e2 | e2
        · exact e2.symm
        · have := hb1 x e
          have := ha1 y e2
          omega
    subst hxy
    rw [rising_eq ha2 hb2 fun z => ?_]
    constructor
    · intro hz
      rcases List.mem_cons.1 ((h z).1 (by simp [hz])) with e | e
      · subst e
        have := ha1 z hz
        omega
      · exact e
    · intro hz
      rcases List.mem_cons.1 ((h z).2 (by simp [hz])) with e | e
      · subst e
        have := hb1 z hz
        omega
      · exact e
theorem compact_up (d : Array Int) (hs : ∀ i j, i ≤ j → j < d.size → d[i]! ≤ d[j]!) : ∀ m, m ≤ d.size → (∀ a, a ∈ Lib.compactUpTo d m ↔ ∃ i, i < m ∧ d[i]! = a) ∧ (Lib.compactUpTo d m).Pairwise (· < ·)
  | 0, _ => ⟨fun a => ⟨fun h => absurd h (by simp [Lib.compactUpTo]), fun ⟨i, h, _⟩ => absurd h (Nat.not_lt_zero _)⟩, by simp [Lib.compactUpTo]⟩
  | m + 1, hm => by
    obtain ⟨h1, h2⟩ := compact_up d hs m (by omega)
    rw [Lib.compactUpTo_succ]
    cases hk : Lib.keeps d m with
    | true =>
      rw [if_pos rfl]
      refine ⟨fun a => ?_, ?_⟩
      · rw [List.mem_append, h1 a, List.mem_singleton]
        constructor
        · rintro (⟨i, hi, e⟩ | e)
          · exact ⟨i, by omega, e⟩
          · exact ⟨m, by omega, e.symm⟩
        · rintro ⟨i, hi, e⟩
          by_cases e2 : i = m
          · subst e2; exact .inr e.symm
          · exact .inl ⟨i, by omega, e⟩
      · rw [List.pairwise_append]
        refine ⟨h2, by simp, fun a ha b hb => ?_⟩
        rw [List.mem_singleton] at hb
        subst hb
        obtain ⟨i, hi, e⟩ := (h1 a).1 ha
        have k1 := hs i (m - 1) (by omega) (by omega)
        have k2 := hs (m - 1) m (by omega) (by omega)
        have k3 : d[m]! ≠ d[m - 1]! := by
          unfold Lib.keeps at hk
          rcases of_decide_eq_true hk with h | h
          · omega
          · exact h
        omega
    | false =>
      rw [if_neg (by simp), List.append_nil]
      refine ⟨fun a => ?_, h2⟩
      unfold Lib.keeps at hk
      have hk := of_decide_eq_false hk
      have hm0 : m ≠ 0 := fun e => hk (.inl e)
      have he : d[m]! = d[m - 1]! := Classical.byContradiction fun e => hk (.inr e)
      rw [h1 a]
      constructor
      · rintro ⟨i, hi, e⟩
        exact ⟨i, by omega, e⟩
      · rintro ⟨i, hi, e⟩
        by_cases e2 : i = m
        · subst e2
          exact ⟨i - 1, by omega, by rw [← he]; exact e⟩
        · exact ⟨i, by omega, e⟩
theorem compact_sorted (l : List Int) : (∀ a, a ∈ Lib.compact (l.mergeSort leI) ↔ a ∈ l) ∧ (Lib.compact (l.mergeSort leI)).Pairwise (· < ·) := by
  have hp := List.pairwise_mergeSort (le := leI) (fun a b c h k => by
    unfold leI at *
    simp only [decide_eq_true_eq] at *
    omega) (fun a b => by
    unfold leI
    simp only [Bool.or_eq_true, decide_eq_true_eq]
    omega) l
  have hm : ∀ a, a ∈ l.mergeSort leI ↔ a ∈ l := fun a => List.mem_mergeSort
  generalize l.mergeSort leI = z at *
  have hget : ∀ i (h : i < z.length), z.toArray[i]! = z[i] := fun i h => by
    rw [getElem!_pos _ i (by simpa using h)]
    simp
  obtain ⟨h1, h2⟩ := compact_up z.toArray (fun i j hij hj => by
    have hj' : j < z.length := by simpa using hj
    rw [hget i (by omega), hget j hj']
    rcases Nat.lt_or_eq_of_le hij with h | h
    · have := List.pairwise_iff_getElem.1 hp i j (by omega) hj' h
      unfold leI at this
      exact of_decide_eq_true this
    · subst h; exact Int.le_refl _) z.length (by simp)
  refine ⟨fun a => ?_, h2⟩
  unfold Lib.compact
  rw [h1 a, ← hm a]
  constructor
  · rintro ⟨i, hi, e⟩
    rw [hget i hi] at e
    exact e ▸ List.getElem_mem hi
  · intro ha
    obtain ⟨i, hi, e⟩ := List.getElem_of_mem ha
    exact ⟨i, hi, by rw [hget i hi]; exact e⟩
section
variable {tb : Nat → Bool} {ci : Nat → Nat}
theorem freeF_all : ∀ {m : Nat}, (∀ k, k < m → tb k = true ∧ ci k = 1) → freeF tb ci m = some (-1)
  | 0, _ => rfl
  | m + 1, h => by
    have ih := freeF_all (m := m) fun k hk => h k (by omega)
    obtain ⟨h1, h2⟩ := h m (by omega)
    rw [freeF_ok ih (by unfold badK; rw [h1, h2]; rfl), h2]
    rfl
theorem freeF_one {k0 : Nat} : ∀ {m : Nat}, k0 < m → (∀ k, k < m → tb k = true ∧ ci k = if k = k0 then 0 else 1) → freeF tb ci m = some (k0 : Int)
  | m + 1, hk, h => by
    obtain ⟨h1, h2⟩ := h m (by omega)
    by_cases e : m = k0
    · subst e
      have ih := freeF_all (tb := tb) (ci := ci) (m := m) fun k hk => by
        have := h k (by omega)
        rw [if_neg (by omega)] at this
        exact this
      rw [if_pos rfl] at h2
      rw [freeF_ok ih (by unfold badK; rw [h1, h2]; rfl), if_pos h2]
    · rw [if_neg e] at h2
      have ih := freeF_one (k0 := k0) (m := m) (by omega) fun k hk => h k (by omega)
      rw [freeF_ok ih (by unfold badK; rw [h1, h2]; rfl), if_neg (by omega)]
theorem freeF_conv : ∀ {m : Nat} {fr : Int}, freeF tb ci m = some fr → (fr = -1 ∧ ∀ k, k < m → tb k = true ∧ ci k = 1) ∨ ∃ k0 : Nat, k0 < m ∧ fr = k0 ∧ ∀ k, k < m → tb k = true ∧ ci k = if k = k0 then 0 else 1
  | 0, fr, h => by
    simp [freeF] at h
    exact .inl ⟨h.symm, fun k hk => absurd hk (Nat.not_lt_zero _)⟩
  | m + 1, fr, h => by
    cases hf : freeF tb ci m with
    | none => rw [freeF, hf] at h; cases h
    | some f0 =>
      have ih := freeF_conv hf
      by_cases hb : badK (tb m) (ci m) f0 = true
      · rw [freeF_bad hf hb] at h; cases h
      · have hb' : badK (tb m) (ci m) f0 = false := by simpa using hb
        rw [freeF_ok hf hb'] at h
        injection h with h
        unfold badK at hb'
        simp only [Bool.or_eq_false_iff, Bool.not_eq_false', decide_eq_false_iff_not, Bool.and_eq_false_iff] at hb'
        obtain ⟨b1, b2, b3⟩ := hb'
        rcases ih with ⟨e, ih⟩ | ⟨k0, hk0, e, ih⟩
        · by_cases hz : ci m = 0
          · rw [if_pos hz] at h
            refine .inr ⟨m, by omega, h.symm, fun k hk => ?_⟩
            by_cases e2 : k = m
            · rw [if_pos e2, e2]; exact ⟨b1, hz⟩
            · rw [if_neg e2]; exact ih k (by omega)
          · rw [if_neg hz] at h
            refine .inl ⟨by omega, fun k hk => ?_⟩
            by_cases e2 : k = m
            · rw [e2]; exact ⟨b1, by omega⟩
            · exact ih k (by omega)
        · have hz : ci m ≠ 0 := fun hz => by
            rcases b3 with b | b
            · exact b hz
            · exact b (by omega)
          rw [if_neg hz] at h
          refine .inr ⟨k0, by omega, by omega, fun k hk => ?_⟩
          by_cases e2 : k = m
          · rw [if_neg (by omega), e2]; exact ⟨b1, by omega⟩
          · exact ih k (by omega)
end
section
variable {n : Int} {es : List (Int × Int)} {rs : List (List Int)}
theorem rlF_part {ro : Nat → Nat} {F c : Nat} (hro : ∀ f, f < F → ro f < F) (hfix : ∀ f, f < F → ro (ro f) = ro f) (hc : c < F) (hcc : ro c = c) : rlF ro F (pos ro c) = (partF ro F c).map Int.ofNat := by
  unfold rlF partF
  congr 1
  refine List.filter_congr fun y hy => ?_
  have hy := List.mem_range.1 hy
  have := pos_inj (hfix y hy) hcc (hro y hy) hc
  rw [Bool.eq_iff_iff, decide_eq_true_eq, decide_eq_true_eq]
  exact this
theorem rlV_part {ro : Nat → Nat} {F N c : Nat} (hfix : ∀ y, y < F + N → ro (ro y) = ro y) (hc : c < F) (hcc : ro c = c) : rlV ro F N (pos ro c) = (partV ro F N c).map Int.ofNat := by
  unfold rlV partV
  congr 1
  refine List.filter_congr fun y hy => ?_
  have hy := List.mem_range.1 hy
  rw [Bool.eq_iff_iff, decide_eq_true_eq, decide_eq_true_eq]
  constructor
  · rintro ⟨h1, h2⟩
    exact (pos_inj (hfix (F + y) (by omega)) hcc h1 hc).1 h2
  · intro h
    rw [h]
    exact ⟨hc, rfl⟩
theorem cA_part {ro : Nat → Nat} {F N c : Nat} {H : List Quad} (hIn : InH F N H) (hro : ∀ f, f < F → ro f < F) (hfix : ∀ f, f < F → ro (ro f) = ro f) (hc : c < F) (hcc : ro c = c) : cA ro H (pos ro c) = partA ro H c := by
  unfold cA partA
  refine List.countP_congr fun q hq => ?_
  have h1 := (hIn q hq).1
  have := pos_inj (hfix _ h1) hcc (hro _ h1) hc
  rw [decide_eq_true_eq, decide_eq_true_eq]
  exact this
/-- the faces told -/
theorem outR_iff (hf : faskB n es rs = true) (he : 0 < es.length) : (∀ a : Int, a ∈ outR n es rs ↔ ∃ f : Nat, a = f ∧ OutP n es rs f) ∧ (outR n es rs).Pairwise (· < ·) := by
  have ha := fask_ask hf
  have hR := ask_right ha
  have hin := right_inN hR
  have hG := fask_good hf
  rw [show n = (rs.length : Int) from hR.len.symm] at hG
  have hIn := highs_in ha
  have hL := roH_ok hIn
  change LeadP _ (roR n es rs) at hL
  have hroF := fun f (h : f < (facesOf n es rs).length) => roH_face_lt hIn h
  change ∀ f, f < _ → roR n es rs f < _ at hroF
  have hfixF : ∀ f, f < (facesOf n es rs).length → roR n es rs (roR n es rs f) = roR n es rs f := fun f h => hL.fix f (by omega)
  have hs1 := src_one hG
  obtain ⟨s, hs⟩ : ∃ s, bareV rs.length es Prod.snd = [s] := List.length_eq_one_iff.1 hs1
  have hsv : (bareVI rs.length es Prod.snd).getD 0 0 = (s : Int) := by unfold bareVI; rw [hs]; rfl
  -- by place, by leader
  have hT : ∀ c, c < (facesOf n es rs).length → roR n es rs c = c → (treeK (roR n es rs) ((angR n es rs).filter hiQ) (facesOf n es rs).length rs.length (pos (roR n es rs) c) = true ↔ partA (roR n es rs) ((angR n es rs).filter hiQ) c + 1 = (partF (roR n es rs) (facesOf n es rs).length c).length + (partV (roR n es rs) (facesOf n es rs).length rs.length c).length) := fun c hc hcc => by
    unfold treeK
    rw [rlB_even, rlB_odd, rlF_part hroF hfixF hc hcc, rlV_part hL.fix hc hcc, cA_part hIn hroF hfixF hc hcc, List.length_map, List.length_map, beq_iff_eq]
    omega
  have hI : ∀ c, c < (facesOf n es rs).length → roR n es rs c = c → innK es (roR n es rs) (facesOf n es rs).length rs.length (pos (roR n es rs) c) = inC es (roR n es rs) (facesOf n es rs).length rs.length c := fun c hc hcc => by
    unfold innK keepN inC
    rw [rlB_odd, rlV_part hL.fix hc hcc, List.take_length, List.countP_map]
    unfold partV
    rw [List.countP_filter]
    refine List.countP_congr fun x hx => ?_
    have hev := even_ends hin (x := x)
    unfold hasEnds at hev
    simp only [Function.comp, Bool.and_eq_true, decide_eq_true_eq, tst_iff, Bool.not_eq_true', bareX] at hev ⊢
    rw [← hev, beq_eq_false_iff_ne]
    constructor
    · rintro ⟨a, b⟩
      refine ⟨b, ?_⟩
      change ((endsF es Prod.fst (x : Int) es.length).length : Int) ≠ 0 at a
      omega
    · rintro ⟨b, a⟩
      refine ⟨?_, b⟩
      change ((endsF es Prod.fst (x : Int) es.length).length : Int) ≠ 0
      omega
  have hplace : ∀ k, k < pos (roR n es rs) (facesOf n es rs).length → ∃ c, k = pos (roR n es rs) c ∧ roR n es rs c = c ∧ c < (facesOf n es rs).length := fun k hk => by
    have hk' : k < (leads (roR n es rs) (facesOf n es rs).length).length := hk
    exact ⟨_, get_pos (List.getElem?_eq_getElem hk')⟩
  have hmemA : ∀ q, q ∈ angR n es rs ↔ ∃ h, h < 2 * es.length ∧ q = angQ n es rs h := fun q => by
    unfold angR
    rw [if_pos ha]
    unfold angL
    rw [List.mem_map]
    exact ⟨fun ⟨h, h1, h2⟩ => ⟨h, List.mem_range.1 h1, h2.symm⟩, fun ⟨h, h1, h2⟩ => ⟨h, List.mem_range.2 h1, h2.symm⟩⟩
  -- what is selected
  have hsel : ∀ c, c < (facesOf n es rs).length → roR n es rs c = c → ∀ a : Int, a ∈ selQ (s : Int) (rlB (roR n es rs) (facesOf n es rs).length rs.length (2 * pos (roR n es rs) c)) (angR n es rs) ↔ ∃ f : Nat, a = f ∧ f < (facesOf n es rs).length ∧ roR n es rs f = c ∧ ∃ h, h < 2 * es.length ∧ vtx es h = s ∧ angF n es rs h = f := fun c hc hcc a => by
    unfold selQ
    rw [List.mem_map, rlB_even, rlF_part hroF hfixF hc hcc]
    constructor
    · rintro ⟨q, hq, rfl⟩
      obtain ⟨h1, h2⟩ := List.mem_filter.1 hq
      rw [Bool.and_eq_true, decide_eq_true_eq, decide_eq_true_eq, idxF_mem.1] at h2
      obtain ⟨h, hh, rfl⟩ := (hmemA q).1 h1
      obtain ⟨y, hy, e⟩ := List.mem_map.1 h2.2
      have hyf : y = angF n es rs h := Int.ofNat.inj e
      have hy2 := List.mem_filter.1 hy
      refine ⟨angF n es rs h, rfl, (angF_spec hR hh).1, ?_, h, hh, ?_, rfl⟩
      · rw [← hyf]; exact of_decide_eq_true hy2.2
      · have : ((vtx es h : Nat) : Int) = (s : Int) := h2.1
        omega
    · rintro ⟨f, rfl, hf1, hf2, h, hh, hv, hfh⟩
      refine ⟨angQ n es rs h, List.mem_filter.2 ⟨(hmemA _).2 ⟨h, hh, rfl⟩, ?_⟩, by show ((angF n es rs h : Nat) : Int) = f; rw [hfh]⟩
      rw [Bool.and_eq_true, decide_eq_true_eq, decide_eq_true_eq, idxF_mem.1]
      refine ⟨by show ((vtx es h : Nat) : Int) = s; rw [hv], List.mem_map.2 ⟨f, List.mem_filter.2 ⟨List.mem_range.2 hf1, decide_eq_true hf2⟩, ?_⟩⟩
      show (f : Int) = ((angF n es rs h : Nat) : Int)
      rw [hfh]
  have hOR : outR n es rs = outL es (roR n es rs) (facesOf n es rs).length rs.length (angR n es rs) := by unfold outR; rw [if_pos hf]
  rw [hOR]
  -- from the web's face to the list
  have hto : ∀ f, OutP n es rs f → outL es (roR n es rs) (facesOf n es rs).length rs.length (angR n es rs) = Lib.compact ((selQ (s : Int) (rlB (roR n es rs) (facesOf n es rs).length rs.length (2 * pos (roR n es rs) (roR n es rs f))) (angR n es rs)).mergeSort leI) := fun f hO => by
    have hc0 := hroF f hO.lt
    have hc0f := hfixF f hO.lt
    rw [← hsv]
    refine outL_pos (freeF_one (pos_lt hc0f hc0) fun k hk => ?_)
    obtain ⟨c, rfl, hcc, hc⟩ := hplace k hk
    refine ⟨(hT c hc hcc).2 (hO.tree c hc hcc), ?_⟩
    rw [hI c hc hcc, hO.inn c hc hcc]
    by_cases e : c = roR n es rs f
    · rw [if_pos e, if_pos (by rw [e])]
    · rw [if_neg e, if_neg fun h => e ((pos_inj hcc hc0f hc hc0).1 h)]
  -- and back
  have hback : ∀ fr : Nat, freeF (treeK (roR n es rs) ((angR n es rs).filter hiQ) (facesOf n es rs).length rs.length) (innK es (roR n es rs) (facesOf n es rs).length rs.length) (pos (roR n es rs) (facesOf n es rs).length) = some (fr : Int) → ∃ c, fr = pos (roR n es rs) c ∧ roR n es rs c = c ∧ c < (facesOf n es rs).length ∧ ∀ f, f < (facesOf n es rs).length → roR n es rs f = c → (∃ h, h < 2 * es.length ∧ vtx es h = s ∧ angF n es rs h = f) → OutP n es rs f := fun fr hfr => by
    rcases freeF_conv hfr with ⟨e, _⟩ | ⟨k0, hk0, e, hall⟩
    · omega
    · have : k0 = fr := by omega
      subst this
      obtain ⟨c0, rfl, hcc0, hc0⟩ := hplace k0 hk0
      refine ⟨c0, rfl, hcc0, hc0, fun f hf1 hf2 ⟨h, hh, hv, hfh⟩ => ⟨hf1, ⟨h, hh, by rw [hs, hv]; simp, hfh⟩, fun c hc hcc => ?_, fun c hc hcc => ?_⟩⟩
      · exact (hT c hc hcc).1 (hall _ (pos_lt hcc hc)).1
      · rw [← hI c hc hcc, (hall _ (pos_lt hcc hc)).2, hf2]
        by_cases e : c = c0
        · rw [if_pos e, if_pos (by rw [e])]
        · rw [if_neg e, if_neg fun h => e ((pos_inj hcc hcc0 hc hc0).1 h)]
  have hsrcO : ∀ f, OutP n es rs f → ∃ h, h < 2 * es.length ∧ vtx es h = s ∧ angF n es rs h = f := fun f hO => by
    obtain ⟨h, hh, hv, hfh⟩ := hO.src
    rw [hs] at hv
    exact ⟨h, hh, by simpa using hv, hfh⟩
  cases hfr : freeF (treeK (roR n es rs) ((angR n es rs).filter hiQ) (facesOf n es rs).length rs.length) (innK es (roR n es rs) (facesOf n es rs).length rs.length) (pos (roR n es rs) (facesOf n es rs).length) with
  | none =>
    have hnil := outL_none hfr
    rw [hnil]
    refine ⟨fun a => ⟨fun h => absurd h (by simp), fun ⟨f, _, hO⟩ => ?_⟩, List.Pairwise.nil⟩
    obtain ⟨h, hh, hv, hfh⟩ := hsrcO f hO
    have h1 := hto f hO
    rw [hnil] at h1
    have h2 := (compact_sorted (selQ (s : Int) (rlB (roR n es rs) (facesOf n es rs).length rs.length (2 * pos (roR n es rs) (roR n es rs f))) (angR n es rs))).1 (f : Int)
    rw [← h1] at h2
    exact absurd (h2.2 ((hsel _ (hroF f hO.lt) (hfixF f hO.lt) _).2 ⟨f, rfl, hO.lt, rfl, h, hh, hv, hfh⟩)) (by simp)
  | some fr =>
    by_cases hn : fr < 0
    · have hnil := outL_neg hfr hn
      rw [hnil]
      refine ⟨fun a => ⟨fun h => absurd h (by simp), fun ⟨f, _, hO⟩ => ?_⟩, List.Pairwise.nil⟩
      obtain ⟨h, hh, hv, hfh⟩ := hsrcO f hO
      have h1 := hto f hO
      rw [hnil] at h1
      have h2 := (compact_sorted (selQ (s : Int) (rlB (roR n es rs) (facesOf n es rs).length rs.length (2 * pos (roR n es rs) (roR n es rs f))) (angR n es rs))).1 (f : Int)
      rw [← h1] at h2
      exact absurd (h2.2 ((hsel _ (hroF f hO.lt) (hfixF f hO.lt) _).2 ⟨f, rfl, hO.lt, rfl, h, hh, hv, hfh⟩)) (by simp)
    · obtain ⟨k, rfl⟩ : ∃ k : Nat, fr = (k : Int) := ⟨fr.toNat, by omega⟩
      have hp := outL_pos hfr
      rw [hsv] at hp
      obtain ⟨c, rfl, hcc, hc, hall⟩ := hback k hfr
      rw [hp]
      obtain ⟨m1, m2⟩ := compact_sorted (selQ (s : Int) (rlB (roR n es rs) (facesOf n es rs).length rs.length (2 * pos (roR n es rs) c)) (angR n es rs))
      refine ⟨fun a => ?_, m2⟩
      rw [m1 a, hsel c hc hcc a]
      constructor
      · rintro ⟨f, rfl, hf1, hf2, hsr⟩
        exact ⟨f, rfl, hall f hf1 hf2 hsr⟩
      · rintro ⟨f, rfl, hO⟩
        refine ⟨f, rfl, hO.lt, ?_, hsrcO f hO⟩
        -- the part is told by its having no inner vertex
        have e1 := hto f hO
        have e2 := hback (pos (roR n es rs) c) hfr
        have q1 : freeF (treeK (roR n es rs) ((angR n es rs).filter hiQ) (facesOf n es rs).length rs.length) (innK es (roR n es rs) (facesOf n es rs).length rs.length) (pos (roR n es rs) (facesOf n es rs).length) = some ((pos (roR n es rs) (roR n es rs f) : Nat) : Int) := freeF_one (pos_lt (hfixF f hO.lt) (hroF f hO.lt)) fun k hk => by
          obtain ⟨c', rfl, hcc', hc'⟩ := hplace k hk
          refine ⟨(hT c' hc' hcc').2 (hO.tree c' hc' hcc'), ?_⟩
          rw [hI c' hc' hcc', hO.inn c' hc' hcc']
          by_cases e : c' = roR n es rs f
          · rw [if_pos e, if_pos (by rw [e])]
          · rw [if_neg e, if_neg fun h => e ((pos_inj hcc' (hfixF f hO.lt) hc' (hroF f hO.lt)).1 h)]
        rw [hfr] at q1
        injection q1 with q1
        exact ((pos_inj hcc (hfixF f hO.lt) hc (hroF f hO.lt)).1 (by omega)).symm
/-- .. just those with which great angles fit -/
theorem out_try (hf : faskB n es rs = true) (he : 0 < es.length) (f : Nat) : OutP n es rs f ↔ f < (facesOf n es rs).length ∧ bimB rs = true ∧ tryE n es rs f = true := by
  have ha := fask_ask hf
  have hR := ask_right ha
  have htry : tryE n es rs f = true ↔ FitG (vtx es) (angF n es rs) (2 * es.length) (endsL rs.length es) (roomE n es rs f) := by
    unfold tryE
    exact try_iff _ _ (ask_ends ha he) fun h hh => by
      unfold roomE
      rw [roomT_length]
      exact (angF_spec hR hh).1
  rw [htry]
  constructor
  · intro hO
    exact ⟨hO.lt, (out_sums hf he hO).2, out_fit hf he hO⟩
  · rintro ⟨h1, _, h3⟩
    exact out_mp hf he h1 h3
end
end Go.Proofs.YtelcofkjpkdjiaaGreat
