import Derived.Test.YtelcofkjpkdjiaaGreatZEul
import Derived.Test.YtelcofkjpkdjiaaGreatZVw
/-
  Angles of a rotation: kinds, faces; in each face as many are Low as are High (plain law). Written by an AI agent.
-/
namespace Go.Proofs.YtelcofkjpkdjiaaGreat
open Go.RowKit

theorem nodup_at {α : Type} {l : List α} (h : l.Nodup) {i j : Nat} (hi : i < l.length) (hj : j < l.length) (e : l[i] = l[j]) : i = j := by
  rcases Nat.lt_trichotomy i j with h1 | h1 | h1
  · exact absurd e (List.pairwise_iff_getElem.1 h i j hi hj h1)
  · exact h1
  · exact absurd e.symm (List.pairwise_iff_getElem.1 h j i hj hi h1)
def kindF (a b : Nat) : Nat := if a % 2 = 0 ∧ b % 2 = 0 then 1 else if a % 2 = 1 ∧ b % 2 = 1 then 2 else 0
/-- the last one of the first k faces that has h -/
def faceU (F : List (List Int)) : Nat → Int → Nat
  | 0, _ => 0
  | k + 1, h => if (F.getD k []).contains h then k else faceU F k h
def angK (es : List (Int × Int)) (rs : List (List Int)) (h : Nat) : Nat := kindF h (sig es rs h)
def angF (n : Int) (es : List (Int × Int)) (rs : List (List Int)) (h : Nat) : Nat := faceU (facesOf n es rs) (facesOf n es rs).length ((ot h : Nat) : Int)
theorem faceU_spec {F : List (List Int)} {h : Int} : ∀ k, (∃ f, f < k ∧ h ∈ F.getD f []) → faceU F k h < k ∧ h ∈ F.getD (faceU F k h) []
  | 0, ⟨f, hf, _⟩ => absurd hf (Nat.not_lt_zero _)
  | k + 1, ⟨f, hf, hm⟩ => by
    unfold faceU
    by_cases hk : h ∈ F.getD k []
    · rw [if_pos (by simpa using hk)]
      exact ⟨by omega, hk⟩
    · rw [if_neg (by simpa using hk)]
      have : f ≠ k := fun e => hk (e ▸ hm)
      obtain ⟨h1, h2⟩ := faceU_spec k ⟨f, by omega, hm⟩
      exact ⟨by omega, h2⟩
theorem row_mem {N : Nat} {f : Nat → Nat} (hf : Perm N f) {h : Nat} (hh : h < N) (x : Nat) : (x : Int) ∈ rowOf f h ↔ Orb f h x := by
  unfold rowOf
  rw [List.mem_map, orb_per hf hh]
  constructor
  · rintro ⟨i, hi, e⟩
    exact ⟨i, List.mem_range.1 hi, by omega⟩
  · rintro ⟨i, hi, e⟩
    exact ⟨i, List.mem_range.2 hi, by rw [e]⟩
theorem rows_get (f : Nat → Nat) (N : Nat) {i : Nat} (hi : i < (rowsUpto f N).length) : ∃ h, h < N ∧ leastB f h = true ∧ (rowsUpto f N).getD i [] = rowOf f h ∧ ((List.range N).filter (leastB f))[i]? = some h := by
  unfold rowsUpto at hi ⊢
  rw [List.length_map] at hi
  have hm := List.getElem_mem hi
  rw [List.mem_filter, List.mem_range] at hm
  refine ⟨_, hm.1, hm.2, ?_, List.getElem?_eq_getElem hi⟩
  rw [List.getD_eq_getElem?_getD, List.getElem?_map, List.getElem?_eq_getElem hi]
  rfl
section
variable {n : Int} {es : List (Int × Int)} {rs : List (List Int)}
theorem face_has (hR : RightP n es rs) {h : Nat} (hh : h < 2 * es.length) : ∃ f, f < (facesOf n es rs).length ∧ (h : Int) ∈ (facesOf n es rs).getD f [] := by
  have hP := nxf_perm hR
  obtain ⟨m, hm, hmo, hml⟩ := least_of (P := fun k => Orb (nxf es rs) k h) (Orb.refl _ h)
  have hb : leastB (nxf es rs) m = true := by
    unfold leastB
    rw [tst_iff]
    intro j hj ho
    exact hml j hj (ho.trans hmo)
  rw [faces_rows hR]
  have hmem : rowOf (nxf es rs) m ∈ rowsUpto (nxf es rs) (2 * es.length) := List.mem_map.2 ⟨m, List.mem_filter.2 ⟨List.mem_range.2 (by omega), hb⟩, rfl⟩
  obtain ⟨f, hf, e⟩ := List.getElem_of_mem hmem
  refine ⟨f, hf, ?_⟩
  rw [List.getD_eq_getElem?_getD, List.getElem?_eq_getElem hf]
  show (h : Int) ∈ (rowsUpto (nxf es rs) (2 * es.length))[f]
  rw [e, row_mem hP (by omega)]
  exact hmo
theorem face_one (hR : RightP n es rs) {h f g : Nat} (hf : f < (facesOf n es rs).length) (hg : g < (facesOf n es rs).length) (h1 : (h : Int) ∈ (facesOf n es rs).getD f []) (h2 : (h : Int) ∈ (facesOf n es rs).getD g []) : f = g := by
  have hP := nxf_perm hR
  rw [faces_rows hR] at hf hg h1 h2
  obtain ⟨a, ha, hla, ea, eia⟩ := rows_get _ _ hf
  obtain ⟨b, hb, hlb, eb, eib⟩ := rows_get _ _ hg
  rw [ea, row_mem hP ha] at h1
  rw [eb, row_mem hP hb] at h2
  have hab : a = b := by
    unfold leastB at hla hlb
    rw [tst_iff] at hla hlb
    have o1 := h1.trans (h2.symm hP hb)
    have o2 := h2.trans (h1.symm hP ha)
    rcases Nat.lt_trichotomy a b with h | h | h
    · exact absurd o1 (hlb a h)
    · exact h
    · exact absurd o2 (hla b h)
  subst hab
  have hnd : ((List.range (2 * es.length)).filter (leastB (nxf es rs))).Nodup := List.nodup_range.filter _
  obtain ⟨hfl, ef⟩ := List.getElem?_eq_some_iff.1 eia
  obtain ⟨hgl, eg⟩ := List.getElem?_eq_some_iff.1 eib
  exact nodup_at hnd hfl hgl (ef.trans eg.symm)
theorem face_closed (hR : RightP n es rs) {h f : Nat} (hh : h < 2 * es.length) (hf : f < (facesOf n es rs).length) : ((nxf es rs h : Nat) : Int) ∈ (facesOf n es rs).getD f [] ↔ (h : Int) ∈ (facesOf n es rs).getD f [] := by
  have hP := nxf_perm hR
  rw [faces_rows hR] at hf ⊢
  obtain ⟨a, ha, hla, ea, _⟩ := rows_get _ _ hf
  rw [ea, row_mem hP ha, row_mem hP ha]
  exact ⟨fun o => o.trans ((Orb.step (nxf es rs) h).symm hP hh), fun o => o.trans (Orb.step _ _)⟩
theorem face_nat (hR : RightP n es rs) {f : Nat} {z : Int} (h : z ∈ (facesOf n es rs).getD f []) : ∃ k : Nat, z = k ∧ k < 2 * es.length := by
  have hP := nxf_perm hR
  rw [faces_rows hR] at h
  rcases Nat.lt_or_ge f (rowsUpto (nxf es rs) (2 * es.length)).length with hf | hf
  · obtain ⟨a, ha, _, ea, _⟩ := rows_get _ _ hf
    rw [ea] at h
    unfold rowOf at h
    obtain ⟨i, _, rfl⟩ := List.mem_map.1 h
    exact ⟨_, rfl, hP.iter_lt i ha⟩
  · rw [List.getD_eq_getElem?_getD, List.getElem?_eq_none hf] at h
    cases h
theorem angF_spec (hR : RightP n es rs) {h : Nat} (hh : h < 2 * es.length) : angF n es rs h < (facesOf n es rs).length ∧ ((ot h : Nat) : Int) ∈ (facesOf n es rs).getD (angF n es rs h) [] :=
  faceU_spec _ (face_has hR (ot_lt hh))
theorem angF_iff (hR : RightP n es rs) {h f : Nat} (hh : h < 2 * es.length) (hf : f < (facesOf n es rs).length) : angF n es rs h = f ↔ ((ot h : Nat) : Int) ∈ (facesOf n es rs).getD f [] := by
  obtain ⟨h1, h2⟩ := angF_spec hR hh
  exact ⟨fun e => e ▸ h2, fun h3 => face_one hR h1 hf h2 h3⟩
theorem sig_ot (k : Nat) : sig es rs (ot k) = nxf es rs k := by unfold sig; rw [ot_ot]
end
/-- a permutation counts the same -/
theorem perm_surj {N : Nat} {f : Nat → Nat} (hf : Perm N f) {x : Nat} (hx : x < N) : ∃ y, y < N ∧ f y = x := by
  obtain ⟨p, hp, _, e⟩ := hf.period hx
  refine ⟨iter f (p - 1) x, hf.iter_lt _ hx, ?_⟩
  rw [← iter_succ f, show p - 1 + 1 = p by omega]
  exact e
theorem perm_count {N : Nat} {f : Nat → Nat} (hf : Perm N f) (q : Nat → Bool) : (List.range N).countP (fun k => q (f k)) = (List.range N).countP q := by
  have hp : ((List.range N).map f).Perm (List.range N) := by
    rw [List.perm_ext_iff_of_nodup]
    · intro a
      rw [List.mem_map, List.mem_range]
      constructor
      · rintro ⟨k, hk, rfl⟩
        exact hf.lt k (List.mem_range.1 hk)
      · intro ha
        obtain ⟨y, hy, e⟩ := perm_surj hf ha
        exact ⟨y, List.mem_range.2 hy, e⟩
    · unfold List.Nodup
      rw [List.pairwise_map]
      refine List.Pairwise.imp_of_mem (fun {a b} ha hb hab e => ?_) List.pairwise_lt_range
      have := hf.inj a b (List.mem_range.1 ha) (List.mem_range.1 hb) e
      omega
    · exact List.nodup_range
  have := hp.countP_eq q
  rw [List.countP_map] at this
  exact this
theorem ot_perm (m : Nat) : Perm (2 * m) ot := ⟨fun x hx => ot_lt hx, fun x y _ _ e => ot_inj e⟩
theorem ot_mod (k : Nat) : ot k % 2 = 1 - k % 2 := by unfold ot; split <;> omega
theorem count_congr {N : Nat} {p q : Nat → Bool} (h : ∀ k, k < N → p k = q k) : (List.range N).countP p = (List.range N).countP q :=
  List.countP_congr fun k hk => by rw [h k (List.mem_range.1 hk)]
/-- along a permutation as many steps go up as go down, in a set that is closed -/
theorem up_down {N : Nat} {f : Nat → Nat} (hf : Perm N f) {P q : Nat → Bool} (hP : ∀ k, k < N → P (f k) = P k) :
    (List.range N).countP (fun k => P k && (!q k && q (f k))) = (List.range N).countP (fun k => P k && (q k && !q (f k))) := by
  have h1 : (List.range N).countP (fun k => P k && q (f k)) = (List.range N).countP (fun k => P k && q k) := by
    rw [← perm_count hf (fun k => P k && q k)]
    exact count_congr fun k hk => by rw [hP k hk]
  have h2 := countP_split (List.range N) (fun k => P k && q (f k)) q
  have h3 := countP_split (List.range N) (fun k => P k && q k) (fun k => q (f k))
  have e1 : (List.range N).countP (fun k => P k && q (f k) && q k) = (List.range N).countP (fun k => P k && q k && q (f k)) := count_congr fun k _ => by cases P k <;> cases q k <;> cases q (f k) <;> rfl
  have e2 : (List.range N).countP (fun k => P k && (!q k && q (f k))) = (List.range N).countP (fun k => P k && q (f k) && !q k) := count_congr fun k _ => by cases P k <;> cases q k <;> cases q (f k) <;> rfl
  have e3 : (List.range N).countP (fun k => P k && (q k && !q (f k))) = (List.range N).countP (fun k => P k && q k && !q (f k)) := count_congr fun k _ => by cases P k <;> cases q k <;> cases q (f k) <;> rfl
  omega
def ev (k : Nat) : Bool := decide (k % 2 = 0)
theorem kindF_low (a b : Nat) : kindF a b = 1 ↔ ev a = true ∧ ev b = true := by
  unfold kindF ev
  rcases Nat.mod_two_eq_zero_or_one a with ha | ha <;> rcases Nat.mod_two_eq_zero_or_one b with hb | hb <;> simp [ha, hb]
theorem kindF_high (a b : Nat) : kindF a b = 2 ↔ ev a = false ∧ ev b = false := by
  unfold kindF ev
  rcases Nat.mod_two_eq_zero_or_one a with ha | ha <;> rcases Nat.mod_two_eq_zero_or_one b with hb | hb <;> simp [ha, hb]
theorem ev_ot (k : Nat) : ev (ot k) = !ev k := by
  unfold ev
  rw [ot_mod]
  have := Nat.mod_two_eq_zero_or_one k
  rcases this with h | h <;> simp [h]
section
variable {n : Int} {es : List (Int × Int)} {rs : List (List Int)}
/-- in each face as many angles are Low as are High -/
theorem low_high (hR : RightP n es rs) (f : Nat) : (List.range (2 * es.length)).countP (fun h => decide (angF n es rs h = f) && decide (angK es rs h = 1)) = (List.range (2 * es.length)).countP (fun h => decide (angF n es rs h = f) && decide (angK es rs h = 2)) := by
  have hP := nxf_perm hR
  rw [← perm_count (ot_perm es.length) (fun h => decide (angF n es rs h = f) && decide (angK es rs h = 1)), ← perm_count (ot_perm es.length) (fun h => decide (angF n es rs h = f) && decide (angK es rs h = 2))]
  by_cases hf : f < (facesOf n es rs).length
  · have key := up_down hP (P := fun k => decide ((k : Int) ∈ (facesOf n es rs).getD f [])) (q := ev) (fun k hk => by
      rw [Bool.eq_iff_iff]
      simp only [decide_eq_true_eq]
      exact face_closed hR hk hf)
    have e1 : ∀ k, k < 2 * es.length → (decide (angF n es rs (ot k) = f) && decide (angK es rs (ot k) = 1)) = (decide ((k : Int) ∈ (facesOf n es rs).getD f []) && (!ev k && ev (nxf es rs k))) := fun k hk => by
      rw [Bool.eq_iff_iff]
      simp only [Bool.and_eq_true, decide_eq_true_eq, angF_iff hR (ot_lt hk) hf, ot_ot]
      unfold angK
      rw [sig_ot, kindF_low, ev_ot]
    have e2 : ∀ k, k < 2 * es.length → (decide (angF n es rs (ot k) = f) && decide (angK es rs (ot k) = 2)) = (decide ((k : Int) ∈ (facesOf n es rs).getD f []) && (ev k && !ev (nxf es rs k))) := fun k hk => by
      rw [Bool.eq_iff_iff]
      simp only [Bool.and_eq_true, decide_eq_true_eq, angF_iff hR (ot_lt hk) hf, ot_ot]
      unfold angK
      rw [sig_ot, kindF_high, ev_ot]
      simp
    rw [count_congr e1, count_congr e2]
    exact key
  · have e : ∀ c k, k < 2 * es.length → (decide (angF n es rs (ot k) = f) && decide (angK es rs (ot k) = c)) = false := fun c k hk => by
      have := (angF_spec hR (ot_lt hk)).1
      rw [decide_eq_false (by omega)]
      rfl
    rw [count_congr (e 1), count_congr (e 2)]
end
end Go.Proofs.YtelcofkjpkdjiaaGreat
/-
  Angles at vertices: how many are High, of a bimodal rotation (plain law). Written by an AI agent.
-/
namespace Go.Proofs.YtelcofkjpkdjiaaGreat
open Go.RowKit

theorem sum_ind {v c : Nat} : ∀ M : Nat, ((List.range M).map fun x => if v = x then c else 0).sum = if v < M then c else 0
  | 0 => by simp
  | M + 1 => by
    rw [List.range_succ, List.map_append, List.sum_append, sum_ind M]
    simp only [List.map_cons, List.map_nil, List.sum_cons, List.sum_nil, Nat.add_zero]
    by_cases h : v = M
    · subst h; simp
    · by_cases h2 : v < M
      · rw [if_pos h2, if_neg h, if_pos (by omega)]; rfl
      · rw [if_neg h2, if_neg h, if_neg (by omega)]
theorem sum_add (f g : Nat → Nat) : ∀ M : Nat, ((List.range M).map fun x => f x + g x).sum = ((List.range M).map f).sum + ((List.range M).map g).sum
  | 0 => by simp
  | M + 1 => by
    rw [List.range_succ, List.map_append, List.sum_append, List.map_append, List.sum_append, List.map_append, List.sum_append, sum_add f g M]
    simp only [List.map_cons, List.map_nil, List.sum_cons, List.sum_nil, Nat.add_zero]
    omega
theorem sum_congr {f g : Nat → Nat} {M : Nat} (h : ∀ x, x < M → f x = g x) : ((List.range M).map f).sum = ((List.range M).map g).sum := by
  congr 1
  exact List.map_congr_left fun x hx => h x (List.mem_range.1 hx)
theorem sum_count (p : Nat → Bool) : ∀ M : Nat, ((List.range M).map fun x => if p x = true then 1 else 0).sum = (List.range M).countP p
  | 0 => by simp
  | M + 1 => by
    rw [List.range_succ, List.map_append, List.sum_append, sum_count p M, List.countP_append]
    by_cases h : p M = true <;> simp [h]
/-- what is counted, counted by its values -/
theorem count_fiber {v : Nat → Nat} {M : Nat} (p : Nat → Bool) : ∀ N : Nat, (∀ k, k < N → v k < M) → (List.range N).countP p = ((List.range M).map fun x => (List.range N).countP fun k => decide (v k = x) && p k).sum
  | 0, _ => by
    have : ((List.range M).map fun x => (List.range 0).countP fun k => decide (v k = x) && p k) = (List.range M).map fun _ => 0 := by simp
    rw [this]
    have h0 : ∀ M : Nat, ((List.range M).map fun _ => 0).sum = 0 := fun M => by
      have := sum_ind (v := 0) (c := 0) M
      simpa using this
    rw [h0]
    rfl
  | N + 1, h => by
    have ih := count_fiber (v := v) (M := M) p N (fun k hk => h k (by omega))
    rw [List.range_succ, List.countP_append, ih]
    have e : ((List.range M).map fun x => (List.range N ++ [N]).countP fun k => decide (v k = x) && p k).sum = ((List.range M).map fun x => ((List.range N).countP fun k => decide (v k = x) && p k) + if v N = x then (if p N = true then 1 else 0) else 0).sum := by
      refine sum_congr fun x _ => ?_
      rw [List.countP_append]
      congr 1
      by_cases h1 : v N = x
      · by_cases h2 : p N = true <;> simp [h1, h2]
      · simp [h1]
    rw [e, sum_add, sum_ind, if_pos (h N (by omega))]
    congr 1
    by_cases h2 : p N = true <;> simp [h2]
theorem count_odd : ∀ m : Nat, (List.range (2 * m)).countP (fun k => !ev k) = m
  | 0 => rfl
  | m + 1 => by
    rw [show 2 * (m + 1) = 2 * m + 1 + 1 by omega, List.range_succ, List.range_succ, List.countP_append, List.countP_append, count_odd m]
    have h1 : ev (2 * m) = true := by unfold ev; simp
    have h2 : ev (2 * m + 1) = false := by unfold ev; simp
    simp [h1, h2]
section
variable {n : Int} {es : List (Int × Int)} {rs : List (List Int)}
/-- half edges at a vertex, of a parity, are there any? -/
def hasOdd (es : List (Int × Int)) (x : Nat) : Prop := ∃ k, k < 2 * es.length ∧ vtx es k = x ∧ ev k = false
def hasEven (es : List (Int × Int)) (x : Nat) : Prop := ∃ k, k < 2 * es.length ∧ vtx es k = x ∧ ev k = true
/-- how often an edge that ends at a vertex stands ahead of one that begins -/
def turnN (es : List (Int × Int)) (rs : List (List Int)) (x : Nat) : Nat := (List.range (2 * es.length)).countP fun k => decide (vtx es k = x) && (!ev k && ev (sig es rs k))
theorem vtx_closed (hR : RightP n es rs) (x : Nat) {k : Nat} (hk : k < 2 * es.length) : decide (vtx es (sig es rs k) = x) = decide (vtx es k = x) := by rw [(vtx_sig hR hk).2]
theorem turn_back (hR : RightP n es rs) (x : Nat) : (List.range (2 * es.length)).countP (fun k => decide (vtx es k = x) && (ev k && !ev (sig es rs k))) = turnN es rs x :=
  (up_down (sig_perm hR) (P := fun k => decide (vtx es k = x)) (q := ev) (fun k hk => vtx_closed hR x hk)).symm
/-- Plain angles at a vertex -/
def plainN (es : List (Int × Int)) (rs : List (List Int)) (x : Nat) : Nat := (List.range (2 * es.length)).countP fun k => decide (vtx es k = x) && decide (angK es rs k = 0)
theorem kindF_plain (a b : Nat) : kindF a b = 0 ↔ ev a ≠ ev b := by
  unfold kindF ev
  have ha := Nat.mod_two_eq_zero_or_one a
  have hb := Nat.mod_two_eq_zero_or_one b
  rcases ha with ha | ha <;> rcases hb with hb | hb <;> simp [ha, hb]
theorem plain_two (hR : RightP n es rs) (x : Nat) : plainN es rs x = 2 * turnN es rs x := by
  have h1 := turn_back hR x
  have h2 := countP_split (List.range (2 * es.length)) (fun k => decide (vtx es k = x) && decide (angK es rs k = 0)) ev
  have e1 : (List.range (2 * es.length)).countP (fun k => decide (vtx es k = x) && decide (angK es rs k = 0) && ev k) = (List.range (2 * es.length)).countP (fun k => decide (vtx es k = x) && (ev k && !ev (sig es rs k))) := count_congr fun k _ => by
    unfold angK
    rw [Bool.eq_iff_iff]
    simp only [Bool.and_eq_true, decide_eq_true_eq, kindF_plain]
    cases ev k <;> cases ev (sig es rs k) <;> simp
  have e2 : (List.range (2 * es.length)).countP (fun k => decide (vtx es k = x) && decide (angK es rs k = 0) && !ev k) = turnN es rs x := count_congr fun k _ => by
    unfold angK
    rw [Bool.eq_iff_iff]
    simp only [Bool.and_eq_true, decide_eq_true_eq, kindF_plain]
    cases ev k <;> cases ev (sig es rs k) <;> simp
  unfold plainN
  omega
theorem turn_pos (hR : RightP n es rs) (x : Nat) : 0 < turnN es rs x ↔ hasOdd es x ∧ hasEven es x := by
  unfold turnN
  rw [List.countP_pos_iff]
  constructor
  · rintro ⟨k, hk, h⟩
    rw [List.mem_range] at hk
    simp only [Bool.and_eq_true, decide_eq_true_eq, Bool.not_eq_true'] at h
    obtain ⟨h1, h2, h3⟩ := h
    obtain ⟨h4, h5⟩ := vtx_sig hR hk
    exact ⟨⟨k, hk, h1, h2⟩, ⟨_, h4, h5.trans h1, h3⟩⟩
  · rintro ⟨⟨a, ha, hax, hao⟩, b, hb, hbx, hbe⟩
    apply Classical.byContradiction
    intro hno
    obtain ⟨i, hi⟩ := (orb_sig hR ha hb).2 (hax.trans hbx.symm)
    have key : ∀ i, vtx es (iter (sig es rs) i a) = x ∧ iter (sig es rs) i a < 2 * es.length ∧ ev (iter (sig es rs) i a) = false := fun i => by
      induction i with
      | zero => exact ⟨hax, ha, hao⟩
      | succ i ih =>
        rw [iter_succ]
        obtain ⟨h1, h2, h3⟩ := ih
        obtain ⟨h4, h5⟩ := vtx_sig hR h2
        refine ⟨h5.trans h1, h4, ?_⟩
        cases hh : ev (sig es rs (iter (sig es rs) i a)) with
        | false => rfl
        | true => exact absurd ⟨_, List.mem_range.2 h2, by simp [h1, h3, hh]⟩ hno
    have := (key i).2.2
    rw [hi, hbe] at this
    cases this
noncomputable def bothN (es : List (Int × Int)) (N : Nat) : Nat := (List.range N).countP fun x => tst (hasOdd es x ∧ hasEven es x)
/-- of a bimodal rotation as many angles are High as there are edges, less the vertices that edges go to and from -/
theorem high_count (hR : RightP n es rs) (hin : InN rs.length es) (hb : ∀ x, x < rs.length → plainN es rs x ≤ 2) :
    (List.range (2 * es.length)).countP (fun h => decide (angK es rs h = 2)) + bothN es rs.length = es.length := by
  have hv : ∀ k, k < 2 * es.length → vtx es k < rs.length := fun k hk => vtx_lt hin hk
  have h1 := count_fiber (v := vtx es) (M := rs.length) (fun h => decide (angK es rs h = 2)) (2 * es.length) hv
  have h2 := count_fiber (v := vtx es) (M := rs.length) (fun k => !ev k) (2 * es.length) hv
  rw [count_odd] at h2
  have h3 : bothN es rs.length = ((List.range rs.length).map (turnN es rs)).sum := by
    unfold bothN
    rw [← sum_count]
    refine sum_congr fun x hx => ?_
    have hp := turn_pos hR x
    have h4 := hb x hx
    rw [plain_two hR] at h4
    by_cases hh : hasOdd es x ∧ hasEven es x
    · rw [if_pos (tst_iff.2 hh)]
      have := hp.2 hh
      omega
    · rw [if_neg (by rw [tst_iff]; exact hh)]
      have : ¬ 0 < turnN es rs x := fun h => hh (hp.1 h)
      omega
  have h5 : ((List.range rs.length).map fun x => (List.range (2 * es.length)).countP fun k => decide (vtx es k = x) && !ev k).sum = ((List.range rs.length).map fun x => ((List.range (2 * es.length)).countP fun k => decide (vtx es k = x) && decide (angK es rs k = 2)) + turnN es rs x).sum := by
    refine sum_congr fun x _ => ?_
    have h6 := countP_split (List.range (2 * es.length)) (fun k => decide (vtx es k = x) && !ev k) (fun k => ev (sig es rs k))
    have e1 : (List.range (2 * es.length)).countP (fun k => decide (vtx es k = x) && !ev k && ev (sig es rs k)) = turnN es rs x := count_congr fun k _ => by cases ev k <;> cases ev (sig es rs k) <;> simp
    have e2 : (List.range (2 * es.length)).countP (fun k => decide (vtx es k = x) && !ev k && !ev (sig es rs k)) = (List.range (2 * es.length)).countP (fun k => decide (vtx es k = x) && decide (angK es rs k = 2)) := count_congr fun k _ => by
      unfold angK
      rw [Bool.eq_iff_iff]
      simp only [Bool.and_eq_true, decide_eq_true_eq, kindF_high]
      cases ev k <;> cases ev (sig es rs k) <;> simp
    omega
  rw [sum_add] at h5
  omega
end
end Go.Proofs.YtelcofkjpkdjiaaGreat
/-
  Great angles: trying all choices, and settling one vertex after the other, come to one (plain law). Written by an AI agent.
-/
namespace Go.Proofs.YtelcofkjpkdjiaaGreat
open Go.RowKit

/-- great angles that fit: each end has one of its own, each face as many as it must -/
def FitG (V Fc : Nat → Nat) (M : Nat) (E : List Nat) (rm : List Int) : Prop :=
  ∃ g : Nat → Nat, (∀ x ∈ E, g x < M ∧ V (g x) = x) ∧ ∀ f, f < rm.length → rm.getD f 0 = (E.countP (fun x => decide (Fc (g x) = f)) : Nat)
/-- the reference's Try -/
def tryF (V Fc : Nat → Nat) (M : Nat) : List Nat → List Int → Bool
  | [], rm => rm.all fun n => decide (n = 0)
  | x :: E, rm => (List.range M).any fun h => decide (V h = x) && (decide (0 < rm.getD (Fc h) 0) && tryF V Fc M E (rm.set (Fc h) (rm.getD (Fc h) 0 - 1)))
theorem getD_setZ (l : List Int) (i j : Nat) (v : Int) (hi : i < l.length) : (l.set i v).getD j 0 = if j = i then v else l.getD j 0 := by
  by_cases h : j = i
  · subst h
    rw [if_pos rfl, List.getD_eq_getElem?_getD, List.getElem?_set_self hi]
    rfl
  · rw [if_neg h, List.getD_eq_getElem?_getD, List.getElem?_set_ne (fun e => h e.symm), List.getD_eq_getElem?_getD]
theorem try_iff {V Fc : Nat → Nat} {M : Nat} : ∀ (E : List Nat) (rm : List Int), E.Nodup → (∀ h, h < M → Fc h < rm.length) → (tryF V Fc M E rm = true ↔ FitG V Fc M E rm)
  | [], rm, _, _ => by
    unfold tryF FitG
    rw [List.all_eq_true]
    constructor
    · intro h
      refine ⟨fun _ => 0, by simp, fun f hf => ?_⟩
      have := h _ (List.getElem_mem hf)
      rw [List.getD_eq_getElem?_getD, List.getElem?_eq_getElem hf]
      simpa using this
    · rintro ⟨g, _, h⟩ z hz
      obtain ⟨f, hf, rfl⟩ := List.getElem_of_mem hz
      have := h f hf
      rw [List.getD_eq_getElem?_getD, List.getElem?_eq_getElem hf] at this
      simpa using this
  | x :: E, rm, hnd, hFc => by
    obtain ⟨hx, hnd'⟩ := List.nodup_cons.1 hnd
    unfold tryF
    rw [List.any_eq_true]
    constructor
    · rintro ⟨h, hh, hp⟩
      rw [List.mem_range] at hh
      simp only [Bool.and_eq_true, decide_eq_true_eq] at hp
      obtain ⟨h1, h2, h3⟩ := hp
      obtain ⟨g, g1, g2⟩ := (try_iff E _ hnd' (fun h hh => by rw [List.length_set]; exact hFc h hh)).1 h3
      refine ⟨fun y => if y = x then h else g y, fun y hy => ?_, fun f hf => ?_⟩
      · by_cases e : y = x
        · subst e; simp only [if_pos]; exact ⟨hh, h1⟩
        · simp only [if_neg e]
          exact g1 y ((List.mem_cons.1 hy).resolve_left e)
      · have h4 := g2 f (by rw [List.length_set]; exact hf)
        rw [getD_setZ _ _ _ _ (hFc h hh)] at h4
        have e1 : E.countP (fun y => decide (Fc (if y = x then h else g y) = f)) = E.countP (fun y => decide (Fc (g y) = f)) := List.countP_congr fun y hy => by
          have hyx : ¬ y = x := fun e => hx (by rw [← e]; exact hy)
          rw [if_neg hyx]
        have e2 : ((fun y => if y = x then h else g y) x) = h := by simp
        rw [List.countP_cons, e1, e2]
        by_cases e : f = Fc h
        · subst e
          rw [if_pos rfl] at h4
          simp only [decide_true, if_true]
          omega
        · rw [if_neg e] at h4
          rw [h4, decide_eq_false (fun h => e h.symm)]
          simp
    · rintro ⟨g, g1, g2⟩
      obtain ⟨h1, h2⟩ := g1 x (by simp)
      have hr := g2 (Fc (g x)) (hFc _ h1)
      rw [List.countP_cons, decide_eq_true rfl, if_pos rfl] at hr
      refine ⟨g x, List.mem_range.2 h1, ?_⟩
      simp only [Bool.and_eq_true, decide_eq_true_eq]
      refine ⟨h2, by omega, (try_iff E _ hnd' (fun h hh => by rw [List.length_set]; exact hFc h hh)).2 ⟨g, fun y hy => g1 y (by simp [hy]), fun f hf => ?_⟩⟩
      rw [List.length_set] at hf
      rw [getD_setZ _ _ _ _ (hFc _ h1)]
      have h3 := g2 f hf
      rw [List.countP_cons] at h3
      by_cases e : f = Fc (g x)
      · subst e
        rw [if_pos rfl]
        omega
      · rw [if_neg e, h3, decide_eq_false (fun h => e h.symm)]
        simp
/-- counted by values, of any list -/
theorem count_fibers {v : Nat → Nat} {M : Nat} (p : Nat → Bool) : ∀ l : List Nat, (∀ k ∈ l, p k = true → v k < M) → l.countP p = ((List.range M).map fun x => l.countP fun k => decide (v k = x) && p k).sum
  | [], _ => by
    have := sum_ind (v := 0) (c := 0) M
    simpa using this.symm
  | a :: l, h => by
    have ih := count_fibers (v := v) (M := M) p l (fun k hk => h k (by simp [hk]))
    have e : ((List.range M).map fun x => (a :: l).countP fun k => decide (v k = x) && p k).sum = ((List.range M).map fun x => (l.countP fun k => decide (v k = x) && p k) + if v a = x then (if p a = true then 1 else 0) else 0).sum := by
      refine sum_congr fun x _ => ?_
      rw [List.countP_cons]
      congr 1
      by_cases h1 : v a = x
      · by_cases h2 : p a = true <;> simp [h1, h2]
      · simp [h1]
    rw [e, sum_add, sum_ind, List.countP_cons, ih]
    by_cases h2 : p a = true
    · rw [if_pos h2, if_pos (h a (by simp) h2)]
    · simp [h2]
theorem countP_strict {n : Nat} {p q : Nat → Bool} (h : ∀ z, z < n → p z = true → q z = true) {y : Nat} (hy : y < n) (hq : q y = true) (hp : p y = false) : (List.range n).countP p < (List.range n).countP q := by
  have h1 := countP_split (List.range n) q p
  have e1 : (List.range n).countP (fun z => q z && p z) = (List.range n).countP p := count_congr fun z hz => by
    cases hpz : p z with
    | false => simp
    | true => rw [h z hz hpz]; rfl
  have h2 : 0 < (List.range n).countP (fun z => q z && !p z) := List.countP_pos_iff.2 ⟨y, List.mem_range.2 hy, by rw [hq, hp]; rfl⟩
  omega
theorem countP_mono {n : Nat} {p q : Nat → Bool} (h : ∀ z, z < n → p z = true → q z = true) : (List.range n).countP p ≤ (List.range n).countP q := by
  have h1 := countP_split (List.range n) q p
  have e1 : (List.range n).countP (fun z => q z && p z) = (List.range n).countP p := count_congr fun z hz => by
    cases hpz : p z with
    | false => simp
    | true => rw [h z hz hpz]; rfl
  omega
theorem nodup_count {n : Nat} {E : List Nat} (hnd : E.Nodup) (hE : ∀ x ∈ E, x < n) (q : Nat → Bool) : E.countP q = (List.range n).countP fun y => decide (y ∈ E) && q y := by
  have hp : E.Perm ((List.range n).filter fun y => decide (y ∈ E)) := by
    rw [List.perm_ext_iff_of_nodup hnd (List.nodup_range.filter _)]
    intro a
    rw [List.mem_filter, List.mem_range, decide_eq_true_eq]
    exact ⟨fun h => ⟨hE a h, h⟩, fun h => h.2⟩
  rw [hp.countP_eq, List.countP_filter]
  exact count_congr fun y _ => Bool.and_comm _ _
section
variable (V Fc : Nat → Nat) (n M : Nat) (rm : List Int)
/-- whose great angles are in a face -/
def holdL (G : List Int) (f : Nat) : List Nat := (List.range n).filter fun x => decide (0 ≤ G.getD x 0) && decide (Fc (G.getD x 0).toNat = f)
abbrev SS := List Int × List Bool
def reL (rec : Nat → SS → Bool × SS) : List Nat → SS → Bool × SS
  | [], s => (false, s)
  | y :: ys, s => if (rec y s).1 = true then rec y s else reL rec ys ((rec y s).2.1.set y (s.1.getD y 0), (rec y s).2.2)
def setL (rec : Nat → SS → Bool × SS) (x : Nat) : List Nat → SS → Bool × SS
  | [], s => (false, s)
  | h :: hs, s => if V h ≠ x ∨ s.2.getD (Fc h) false = true then setL rec x hs s
    else if ((holdL Fc n s.1 (Fc h)).length : Int) < rm.getD (Fc h) 0 then (true, (s.1.set x h, s.2.set (Fc h) true))
    else if (reL rec (holdL Fc n s.1 (Fc h)) (s.1, s.2.set (Fc h) true)).1 = true then (true, ((reL rec (holdL Fc n s.1 (Fc h)) (s.1, s.2.set (Fc h) true)).2.1.set x h, (reL rec (holdL Fc n s.1 (Fc h)) (s.1, s.2.set (Fc h) true)).2.2))
    else setL rec x hs (reL rec (holdL Fc n s.1 (Fc h)) (s.1, s.2.set (Fc h) true)).2
/-- the program's settle -/
def settleF : Nat → Nat → SS → Bool × SS
  | 0, _, s => (false, s)
  | f + 1, x, s => setL V Fc n rm (settleF f) x (List.range M) s
/-- the program's loop over the ends -/
def fitL : List Nat → List Int → Option (List Int)
  | [], G => some G
  | x :: E, G => if (settleF V Fc n M rm (rm.length + 1) x (G, List.replicate rm.length false)).1 = true then fitL E (settleF V Fc n M rm (rm.length + 1) x (G, List.replicate rm.length false)).2.1 else none
end
section
variable {V Fc : Nat → Nat} {n M : Nat} {rm : List Int}
structure GoodG (V Fc : Nat → Nat) (n M : Nat) (rm : List Int) (G : List Int) : Prop where
  len : G.length = n
  own : ∀ y, y < n → 0 ≤ G.getD y 0 → (G.getD y 0).toNat < M ∧ V (G.getD y 0).toNat = y
  neg : ∀ y, y < n → -1 ≤ G.getD y 0
  cap : ∀ f, f < rm.length → ((holdL Fc n G f).length : Int) ≤ rm.getD f 0
def Sin (S : List Bool) (f : Nat) : Prop := S.getD f false = true
def SMore (S S' : List Bool) : Prop := S'.length = S.length ∧ ∀ f, Sin S f → Sin S' f
theorem SMore.refl (S : List Bool) : SMore S S := ⟨rfl, fun _ h => h⟩
theorem SMore.trans {S S' S'' : List Bool} (h : SMore S S') (k : SMore S' S'') : SMore S S'' := ⟨k.1.trans h.1, fun f hf => k.2 f (h.2 f hf)⟩
theorem sin_set {S : List Bool} {f g : Nat} (hf : f < S.length) : Sin (S.set f true) g ↔ Sin S g ∨ g = f := by
  unfold Sin
  rw [List.getD_eq_getElem?_getD, List.getElem?_set]
  by_cases h : f = g
  · subst h; simp [hf]
  · rw [if_neg h, ← List.getD_eq_getElem?_getD]
    exact ⟨.inl, fun e => e.elim id fun e => absurd e.symm h⟩
theorem SMore.set (S : List Bool) (f : Nat) (hf : f < S.length) : SMore S (S.set f true) := ⟨by simp, fun g hg => (sin_set hf).2 (.inl hg)⟩
def unS (S : List Bool) : Nat := (List.range S.length).countP fun f => !S.getD f false
theorem unS_set {S : List Bool} {f : Nat} (hf : f < S.length) (h : ¬ Sin S f) : unS (S.set f true) < unS S := by
  unfold unS
  rw [List.length_set]
  refine countP_strict (fun z hz h1 => ?_) hf (by unfold Sin at h; simpa using h) ?_
  · have h1 : ¬ Sin (S.set f true) z := by unfold Sin; simpa using h1
    rw [sin_set hf] at h1
    have : ¬ Sin S z := fun e => h1 (.inl e)
    unfold Sin at this
    simpa using this
  · have : Sin (S.set f true) f := (sin_set hf).2 (.inr rfl)
    unfold Sin at this
    rw [this]
    rfl
theorem unS_more {S S' : List Bool} (h : SMore S S') : unS S' ≤ unS S := by
  unfold unS
  rw [h.1]
  refine countP_mono fun z _ hz => ?_
  have : ¬ Sin S z := fun e => by
    have := h.2 z e
    unfold Sin at this
    rw [this] at hz
    cases hz
  unfold Sin at this
  simpa using this
theorem hold_count (G : List Int) (f : Nat) : (holdL Fc n G f).length = (List.range n).countP fun x => decide (0 ≤ G.getD x 0) && decide (Fc (G.getD x 0).toNat = f) := by
  unfold holdL
  rw [List.countP_eq_length_filter]
theorem mem_hold {G : List Int} {f y : Nat} : y ∈ holdL Fc n G f ↔ y < n ∧ 0 ≤ G.getD y 0 ∧ Fc (G.getD y 0).toNat = f := by
  unfold holdL
  rw [List.mem_filter, List.mem_range]
  simp
/-- what a success leaves -/
structure Won (V Fc : Nat → Nat) (n M : Nat) (rm : List Int) (x : Nat) (G : List Int) (S : List Bool) (G' : List Int) (S' : List Bool) : Prop where
  good : GoodG V Fc n M rm G'
  has : 0 ≤ G'.getD x 0
  same : ∀ z, z < n → z ≠ x → (0 ≤ G'.getD z 0 ↔ 0 ≤ G.getD z 0)
  keep : ∀ z, z < n → z ≠ x → 0 ≤ G.getD z 0 → Sin S (Fc (G.getD z 0).toNat) → G'.getD z 0 = G.getD z 0
  come : ∀ z, z < n → 0 ≤ G'.getD z 0 → Sin S (Fc (G'.getD z 0).toNat) → z ≠ x ∧ G'.getD z 0 = G.getD z 0
  more : SMore S S'
/-- what a failure leaves: no face that was seen has room, and none of those in them can go elsewhere -/
structure Lost (V Fc : Nat → Nat) (n M : Nat) (rm : List Int) (G : List Int) (S S' : List Bool) : Prop where
  more : SMore S S'
  full : ∀ f, f < rm.length → Sin S' f → ¬ Sin S f → rm.getD f 0 ≤ ((holdL Fc n G f).length : Int) ∧ ∀ y ∈ holdL Fc n G f, ∀ h, h < M → V h = y → Sin S' (Fc h)
theorem Lost.refl (G : List Int) (S : List Bool) : Lost V Fc n M rm G S S := ⟨SMore.refl S, fun _ _ h h' => absurd h h'⟩
theorem Lost.trans {G : List Int} {S S' S'' : List Bool} (h : Lost V Fc n M rm G S S') (k : Lost V Fc n M rm G S' S'') : Lost V Fc n M rm G S S'' := by
  refine ⟨h.more.trans k.more, fun f hf h1 h2 => ?_⟩
  by_cases h3 : Sin S' f
  · obtain ⟨a, b⟩ := h.full f hf h3 h2
    exact ⟨a, fun y hy t ht hv => k.more.2 _ (b y hy t ht hv)⟩
  · exact k.full f hf h1 h3
def Res (V Fc : Nat → Nat) (n M : Nat) (rm : List Int) (x : Nat) (G : List Int) (S : List Bool) (r : Bool × SS) : Prop :=
  (r.1 = true → Won V Fc n M rm x G S r.2.1 r.2.2) ∧ (r.1 = false → r.2.1 = G ∧ Lost V Fc n M rm G S r.2.2 ∧ ∀ h, h < M → V h = x → Sin r.2.2 (Fc h))
theorem set_same {G : List Int} (y : Nat) : G.set y (G.getD y 0) = G := by
  apply List.ext_getElem?
  intro i
  rw [List.getElem?_set]
  by_cases h : y = i
  · subst h
    by_cases hy : y < G.length
    · rw [if_pos rfl, if_pos hy, List.getD_eq_getElem?_getD, List.getElem?_eq_getElem hy]; rfl
    · rw [if_pos rfl, if_neg hy, List.getElem?_eq_none (by omega)]
  · rw [if_neg h]
theorem reL_res {rec : Nat → SS → Bool × SS} {G : List Int} : ∀ (ys : List Nat) (S : List Bool), (∀ y ∈ ys, ∀ S', SMore S S' → Res V Fc n M rm y G S' (rec y (G, S'))) →
    ((reL rec ys (G, S)).1 = true → ∃ y ∈ ys, ∃ S1, SMore S S1 ∧ Won V Fc n M rm y G S1 (reL rec ys (G, S)).2.1 (reL rec ys (G, S)).2.2) ∧
    ((reL rec ys (G, S)).1 = false → (reL rec ys (G, S)).2.1 = G ∧ Lost V Fc n M rm G S (reL rec ys (G, S)).2.2 ∧ ∀ y ∈ ys, ∀ h, h < M → V h = y → Sin (reL rec ys (G, S)).2.2 (Fc h))
  | [], S, _ => ⟨fun h => by simp [reL] at h, fun _ => ⟨rfl, Lost.refl G S, by simp⟩⟩
  | y :: ys, S, hrec => by
    obtain ⟨h1, h2⟩ := hrec y (by simp) S (SMore.refl S)
    unfold reL
    by_cases hw : (rec y (G, S)).1 = true
    · rw [if_pos hw]
      exact ⟨fun _ => ⟨y, by simp, S, SMore.refl S, h1 hw⟩, fun h => by rw [hw] at h; cases h⟩
    · rw [if_neg hw]
      obtain ⟨e, hl, hs⟩ := h2 (by simpa using hw)
      have e2 : (rec y (G, S)).2.1.set y (G.getD y 0) = G := by rw [e]; exact set_same y
      simp only [e2]
      have ih := reL_res (rec := rec) (G := G) ys (rec y (G, S)).2.2 (fun z hz S' hS => hrec z (by simp [hz]) S' (hl.more.trans hS))
      refine ⟨fun h => ?_, fun h => ?_⟩
      · obtain ⟨z, hz, S1, hS, hW⟩ := ih.1 h
        exact ⟨z, by simp [hz], S1, hl.more.trans hS, hW⟩
      · obtain ⟨a, b, c⟩ := ih.2 h
        refine ⟨a, hl.trans b, fun z hz t ht hv => ?_⟩
        rcases List.mem_cons.1 hz with e | e
        · subst e; exact b.more.2 _ (hs t ht hv)
        · exact c z e t ht hv
theorem hold_set {G : List Int} {x h f : Nat} (hl : G.length = n) (hx : x < n) (hf : Fc h ≠ f) : (holdL Fc n (G.set x (h : Int)) f).length ≤ (holdL Fc n G f).length := by
  rw [hold_count, hold_count]
  refine countP_mono fun z hz hp => ?_
  rw [getD_setZ _ _ _ _ (by omega)] at hp
  by_cases e : z = x
  · subst e
    simp [hf] at hp
  · rw [if_neg e] at hp
    exact hp
/-- the first place: there is room -/
theorem won_room {G : List Int} {S : List Bool} {x h : Nat} (hG : GoodG V Fc n M rm G) (hx : x < n) (hh : h < M) (hv : V h = x) (hFl : Fc h < S.length) (hun : ¬ Sin S (Fc h)) (hxs : 0 ≤ G.getD x 0 → Sin S (Fc (G.getD x 0).toNat)) (hr : ((holdL Fc n G (Fc h)).length : Int) < rm.getD (Fc h) 0) : Won V Fc n M rm x G S (G.set x (h : Int)) (S.set (Fc h) true) := by
  have hl := hG.len
  have hgx : ∀ z, (G.set x (h : Int)).getD z 0 = if z = x then (h : Int) else G.getD z 0 := fun z => getD_setZ _ _ _ _ (by omega)
  refine ⟨⟨by simp [hl], fun y hy h0 => ?_, fun y hy => ?_, fun f hf => ?_⟩, by rw [hgx, if_pos rfl]; omega, fun z _ hz => by rw [hgx, if_neg hz], fun z _ hz _ _ => by rw [hgx, if_neg hz], fun z _ h0 hs => ?_, SMore.set S _ hFl⟩
  · rw [hgx] at h0 ⊢
    by_cases e : y = x
    · rw [if_pos e]; exact ⟨hh, by rw [e]; exact hv⟩
    · rw [if_neg e] at h0 ⊢; exact hG.own y hy h0
  · rw [hgx]
    by_cases e : y = x
    · rw [if_pos e]; omega
    · rw [if_neg e]; exact hG.neg y hy
  · by_cases e : Fc h = f
    · subst e
      have : (holdL Fc n (G.set x (h : Int)) (Fc h)).length ≤ (holdL Fc n G (Fc h)).length + 1 := by
        rw [hold_count, hold_count]
        have h1 := countP_split (List.range n) (fun z => decide (0 ≤ (G.set x (h : Int)).getD z 0) && decide (Fc ((G.set x (h : Int)).getD z 0).toNat = Fc h)) (fun z => decide (z = x))
        have h2 : (List.range n).countP (fun z => decide (0 ≤ (G.set x (h : Int)).getD z 0) && decide (Fc ((G.set x (h : Int)).getD z 0).toNat = Fc h) && decide (z = x)) ≤ 1 := by
          refine Nat.le_trans (countP_mono (q := fun z => decide (z = x)) fun z _ hz => by simp at hz ⊢; exact hz.2) ?_
          have := sum_count (fun z => decide (z = x)) n
          have h3 := sum_ind (v := x) (c := 1) n
          have h4 : ((List.range n).map fun z => if decide (z = x) = true then 1 else 0).sum = ((List.range n).map fun z => if x = z then 1 else 0).sum := sum_congr fun z _ => by
            by_cases e : z = x
            · subst e; simp
            · have e3 : ¬ x = z := fun h => e h.symm
              simp [e, e3]
          rw [← this, h4, h3]
          split <;> omega
        have h3 : (List.range n).countP (fun z => decide (0 ≤ (G.set x (h : Int)).getD z 0) && decide (Fc ((G.set x (h : Int)).getD z 0).toNat = Fc h) && !decide (z = x)) ≤ (List.range n).countP (fun z => decide (0 ≤ G.getD z 0) && decide (Fc (G.getD z 0).toNat = Fc h)) := countP_mono fun z _ hz => by
          rw [Bool.and_eq_true] at hz
          have hne : z ≠ x := by simpa using hz.2
          have := hz.1
          rwa [hgx, if_neg hne] at this
        omega
      omega
    · have := hold_set (Fc := Fc) (h := h) hl hx e
      have := hG.cap f hf
      omega
  · rw [hgx] at h0 hs ⊢
    by_cases e : z = x
    · rw [if_pos e, Int.toNat_natCast] at hs
      exact absurd hs hun
    · exact ⟨e, by rw [if_neg e]⟩
/-- a place is made: one of those in the face went elsewhere -/
theorem won_made {G G' : List Int} {S S1 S' : List Bool} {x y h : Nat} (hG : GoodG V Fc n M rm G) (hx : x < n) (hh : h < M) (hv : V h = x) (hFl : Fc h < S.length) (hun : ¬ Sin S (Fc h)) (hxs : 0 ≤ G.getD x 0 → Sin S (Fc (G.getD x 0).toNat)) (hy : y ∈ holdL Fc n G (Fc h)) (hS1 : SMore (S.set (Fc h) true) S1) (hW : Won V Fc n M rm y G S1 G' S') : Won V Fc n M rm x G S (G'.set x (h : Int)) S' := by
  obtain ⟨hyn, hy0, hyf⟩ := mem_hold.1 hy
  have hl := hW.good.len
  have hmore : SMore S S1 := (SMore.set S _ hFl).trans hS1
  have hf1 : Sin S1 (Fc h) := hS1.2 _ ((sin_set hFl).2 (.inr rfl))
  have hxy : x ≠ y := fun e => by
    subst e
    rw [hyf] at hxs
    exact hun (hxs hy0)
  have hgx : ∀ z, (G'.set x (h : Int)).getD z 0 = if z = x then (h : Int) else G'.getD z 0 := fun z => getD_setZ _ _ _ _ (by omega)
  refine ⟨⟨by simp [hl], fun z hz h0 => ?_, fun z hz => ?_, fun f hf => ?_⟩, by rw [hgx, if_pos rfl]; omega, fun z hzn hz => ?_, fun z hzn hz h0 hs => ?_, fun z hzn h0 hs => ?_, hmore.trans hW.more⟩
  · rw [hgx] at h0 ⊢
    by_cases e : z = x
    · rw [if_pos e]; exact ⟨hh, by rw [e]; exact hv⟩
    · rw [if_neg e] at h0 ⊢; exact hW.good.own z hz h0
  · rw [hgx]
    by_cases e : z = x
    · rw [if_pos e]; omega
    · rw [if_neg e]; exact hW.good.neg z hz
  · by_cases e : Fc h = f
    · subst e
      have h1 := hG.cap (Fc h) hf
      have h2 : (holdL Fc n (G'.set x (h : Int)) (Fc h)).length ≤ (holdL Fc n G (Fc h)).length := by
        rw [hold_count, hold_count]
        have h1 := countP_split (List.range n) (fun z => decide (0 ≤ (G'.set x (h : Int)).getD z 0) && decide (Fc ((G'.set x (h : Int)).getD z 0).toNat = Fc h)) (fun z => decide (z = x))
        have h2 : (List.range n).countP (fun z => decide (0 ≤ (G'.set x (h : Int)).getD z 0) && decide (Fc ((G'.set x (h : Int)).getD z 0).toNat = Fc h) && decide (z = x)) ≤ 1 := by
          refine Nat.le_trans (countP_mono (q := fun z => decide (z = x)) fun z _ hz => by simp at hz ⊢; exact hz.2) ?_
          have := sum_count (fun z => decide (z = x)) n
          have h3 := sum_ind (v := x) (c := 1) n
          have h4 : ((List.range n).map fun z => if decide (z = x) = true then 1 else 0).sum = ((List.range n).map fun z => if x = z then 1 else 0).sum := sum_congr fun z _ => by
            by_cases e : z = x
            · subst e; simp
            · have e3 : ¬ x = z := fun h => e h.symm
              simp [e, e3]
          rw [← this, h4, h3]
          split <;> omega
        have h3 : (List.range n).countP (fun z => decide (0 ≤ (G'.set x (h : Int)).getD z 0) && decide (Fc ((G'.set x (h : Int)).getD z 0).toNat = Fc h) && !decide (z = x)) < (List.range n).countP (fun z => decide (0 ≤ G.getD z 0) && decide (Fc (G.getD z 0).toNat = Fc h)) := by
          refine countP_strict (fun z hzn hz => ?_) hyn (by simp [-List.getD_eq_getElem?_getD, hy0, hyf]) ?_
          · rw [Bool.and_eq_true] at hz
            have hne : z ≠ x := by simpa using hz.2
            have h5 := hz.1
            rw [hgx, if_neg hne] at h5
            simp only [Bool.and_eq_true, decide_eq_true_eq] at h5 ⊢
            obtain ⟨_, e2⟩ := hW.come z hzn h5.1 (by rw [h5.2]; exact hf1)
            rw [← e2]
            exact h5
          · rw [hgx, if_neg (fun e => hxy e.symm)]
            cases hc : (decide (0 ≤ G'.getD y 0) && decide (Fc (G'.getD y 0).toNat = Fc h)) with
            | false => rfl
            | true =>
              simp only [Bool.and_eq_true, decide_eq_true_eq] at hc
              exact absurd rfl (hW.come y hyn hc.1 (by rw [hc.2]; exact hf1)).1
        omega
      omega
    · have := hold_set (Fc := Fc) (h := h) hl hx e
      have := hW.good.cap f hf
      omega
  · rw [hgx, if_neg hz]
    by_cases e : z = y
    · subst e
      exact ⟨fun _ => hy0, fun _ => hW.has⟩
    · exact hW.same z hzn e
  · rw [hgx, if_neg hz]
    have hzy : z ≠ y := fun e => by
      subst e
      rw [hyf] at hs
      exact hun hs
    exact hW.keep z hzn hzy h0 (hmore.2 _ hs)
  · rw [hgx] at h0 hs ⊢
    by_cases e : z = x
    · rw [if_pos e, Int.toNat_natCast] at hs
      exact absurd hs hun
    · rw [if_neg e] at h0 hs ⊢
      exact ⟨e, (hW.come z hzn h0 (hmore.2 _ hs)).2⟩
theorem setL_res {rec : Nat → SS → Bool × SS} {G : List Int} {x : Nat} (hG : GoodG V Fc n M rm G) (hx : x < n) : ∀ (hs : List Nat) (S : List Bool), (∀ h ∈ hs, h < M ∧ Fc h < rm.length) → S.length = rm.length → (0 ≤ G.getD x 0 → Sin S (Fc (G.getD x 0).toNat)) →
    (∀ f, f < rm.length → ¬ Sin S f → ∀ y ∈ holdL Fc n G f, ∀ S', SMore (S.set f true) S' → Res V Fc n M rm y G S' (rec y (G, S'))) →
    (∀ f S1, SMore S S1 → f < rm.length → ¬ Sin S1 f → ∀ y ∈ holdL Fc n G f, ∀ S', SMore (S1.set f true) S' → Res V Fc n M rm y G S' (rec y (G, S'))) →
    ((setL V Fc n rm rec x hs (G, S)).1 = true → Won V Fc n M rm x G S (setL V Fc n rm rec x hs (G, S)).2.1 (setL V Fc n rm rec x hs (G, S)).2.2) ∧
    ((setL V Fc n rm rec x hs (G, S)).1 = false → (setL V Fc n rm rec x hs (G, S)).2.1 = G ∧ Lost V Fc n M rm G S (setL V Fc n rm rec x hs (G, S)).2.2 ∧ ∀ h ∈ hs, V h = x → Sin (setL V Fc n rm rec x hs (G, S)).2.2 (Fc h))
  | [], S, _, _, _, _, _ => ⟨fun h => by simp [setL] at h, fun _ => ⟨rfl, Lost.refl G S, by simp⟩⟩
  | h :: hs, S, hM, hSl, hxs, hr0, hrec => by
    obtain ⟨hh, hF⟩ := hM h (by simp)
    unfold setL
    by_cases hc : V h ≠ x ∨ S.getD (Fc h) false = true
    · rw [if_pos hc]
      have ih := setL_res (rec := rec) hG hx hs S (fun t ht => hM t (by simp [ht])) hSl hxs hr0 hrec
      refine ⟨ih.1, fun h0 => ?_⟩
      obtain ⟨a, b, c⟩ := ih.2 h0
      refine ⟨a, b, fun t ht hv => ?_⟩
      rcases List.mem_cons.1 ht with e | e
      · subst e
        exact b.more.2 _ (hc.resolve_left (fun hne => hne hv))
      · exact c t e hv
    · rw [if_neg hc]
      have hv : V h = x := Classical.byContradiction fun e => hc (.inl e)
      have hun : ¬ Sin S (Fc h) := fun e => hc (.inr e)
      have hFl : Fc h < S.length := by omega
      by_cases hroom : ((holdL Fc n G (Fc h)).length : Int) < rm.getD (Fc h) 0
      · rw [if_pos hroom]
        exact ⟨fun _ => won_room hG hx hh hv hFl hun hxs hroom, fun h0 => by cases h0⟩
      · rw [if_neg hroom]
        obtain ⟨r1, r2⟩ := reL_res (V := V) (M := M) (rm := rm) (rec := rec) (G := G) (holdL Fc n G (Fc h)) (S.set (Fc h) true) (fun y hy S' hS => hrec (Fc h) S (SMore.refl S) hF hun y hy S' hS)
        by_cases hw : (reL rec (holdL Fc n G (Fc h)) (G, S.set (Fc h) true)).1 = true
        · rw [if_pos hw]
          obtain ⟨y, hy, S1, hS1, hW⟩ := r1 hw
          exact ⟨fun _ => won_made hG hx hh hv hFl hun hxs hy hS1 hW, fun h0 => by cases h0⟩
        · rw [if_neg hw]
          obtain ⟨e, hl, hsn⟩ := r2 (by simpa using hw)
          obtain ⟨S2, hS2⟩ : ∃ S2, S2 = (reL rec (holdL Fc n G (Fc h)) (G, S.set (Fc h) true)).2.2 := ⟨_, rfl⟩
          have e2 : (reL rec (holdL Fc n G (Fc h)) (G, S.set (Fc h) true)).2 = (G, S2) := Prod.ext e hS2.symm
          rw [e2]
          rw [← hS2] at hl hsn
          have hm2 : SMore S S2 := (SMore.set S _ hFl).trans hl.more
          have ih := setL_res (rec := rec) hG hx hs S2 (fun t ht => hM t (by simp [ht])) (by rw [hm2.1]; exact hSl) (fun h0 => hm2.2 _ (hxs h0)) (fun f hf hun' y hy S' hS => hrec f S2 hm2 hf hun' y hy S' hS) (fun f S1 h1 hf hun' y hy S' hS => hrec f S1 (hm2.trans h1) hf hun' y hy S' hS)
          have hlost : Lost V Fc n M rm G S S2 := by
            refine ⟨hm2, fun f hf h1 h2 => ?_⟩
            by_cases h3 : Sin (S.set (Fc h) true) f
            · have hfe : f = Fc h := ((sin_set hFl).1 h3).resolve_left h2
              subst hfe
              exact ⟨by omega, hsn⟩
            · exact hl.full f hf h1 h3
          refine ⟨fun h0 => ?_, fun h0 => ?_⟩
          · have W := ih.1 h0
            exact ⟨W.good, W.has, W.same, fun z hz hne h1 h2 => W.keep z hz hne h1 (hm2.2 _ h2), fun z hz h1 h2 => W.come z hz h1 (hm2.2 _ h2), hm2.trans W.more⟩
          · obtain ⟨a, b, c⟩ := ih.2 h0
            refine ⟨a, hlost.trans b, fun t ht hvt => ?_⟩
            rcases List.mem_cons.1 ht with e | e
            · subst e
              exact b.more.2 _ (hl.more.2 _ ((sin_set hFl).2 (.inr rfl)))
            · exact c t e hvt
theorem settleF_res (hFc : ∀ h, h < M → Fc h < rm.length) : ∀ (fuel x : Nat) (G : List Int) (S : List Bool), unS S < fuel → GoodG V Fc n M rm G → x < n → S.length = rm.length → (0 ≤ G.getD x 0 → Sin S (Fc (G.getD x 0).toNat)) → Res V Fc n M rm x G S (settleF V Fc n M rm fuel x (G, S))
  | 0, _, _, _, h, _, _, _, _ => absurd h (Nat.not_lt_zero _)
  | fuel + 1, x, G, S, hu, hG, hx, hSl, hxs => by
    have hrec : ∀ f S1, SMore S S1 → f < rm.length → ¬ Sin S1 f → ∀ y ∈ holdL Fc n G f, ∀ S', SMore (S1.set f true) S' → Res V Fc n M rm y G S' (settleF V Fc n M rm fuel y (G, S')) := fun f S1 h1 hf hun y hy S' hS => by
      obtain ⟨hyn, hy0, hyf⟩ := mem_hold.1 hy
      have hfl : f < S1.length := by rw [h1.1, hSl]; exact hf
      refine settleF_res hFc fuel y G S' ?_ hG hyn ?_ fun _ => ?_
      · have a1 := unS_more hS
        have a2 := unS_set hfl hun
        have a3 := unS_more h1
        omega
      · rw [hS.1, List.length_set, h1.1, hSl]
      · rw [hyf]
        exact hS.2 _ ((sin_set hfl).2 (.inr rfl))
    have := setL_res (rec := settleF V Fc n M rm fuel) hG hx (List.range M) S (fun h hh => ⟨List.mem_range.1 hh, hFc h (List.mem_range.1 hh)⟩) hSl hxs (fun f hf hun => hrec f S (SMore.refl S) hf hun) hrec
    unfold settleF
    refine ⟨this.1, fun h0 => ?_⟩
    obtain ⟨a, b, c⟩ := this.2 h0
    exact ⟨a, b, fun h hh hv => c h (List.mem_range.2 hh) hv⟩
/-- if one vertex finds none, no choice fits -/
theorem lost_none (hFc : ∀ h, h < M → Fc h < rm.length) {E done : List Nat} {x : Nat} {G : List Int} {S' : List Bool} (hnd : E.Nodup) (hE : ∀ z ∈ E, z < n) (hxE : x ∈ E) (hdone : ∀ z, z < n → 0 ≤ G.getD z 0 → z ∈ E) (hG : GoodG V Fc n M rm G) (hx0 : ¬ 0 ≤ G.getD x 0)
    (hl : Lost V Fc n M rm G (List.replicate rm.length false) S') (hx : ∀ h, h < M → V h = x → Sin S' (Fc h)) : ¬ FitG V Fc M E rm := by
  rintro ⟨g, g1, g2⟩
  have hno : ∀ f, ¬ Sin (List.replicate rm.length false) f := fun f => by
    unfold Sin
    rw [List.getD_eq_getElem?_getD, List.getElem?_replicate]
    split <;> simp
  have hfib : E.countP (fun z => S'.getD (Fc (g z)) false) = ((List.range rm.length).map fun f => E.countP fun z => decide (Fc (g z) = f) && S'.getD (Fc (g z)) false).sum :=
    count_fibers (v := fun z => Fc (g z)) (M := rm.length) _ E (fun z hz _ => hFc _ (g1 z hz).1)
  have hfib2 : (List.range n).countP (fun z => decide (0 ≤ G.getD z 0) && S'.getD (Fc (G.getD z 0).toNat) false) = ((List.range rm.length).map fun f => (List.range n).countP fun z => decide (Fc (G.getD z 0).toNat = f) && (decide (0 ≤ G.getD z 0) && S'.getD (Fc (G.getD z 0).toNat) false)).sum :=
    count_fibers (v := fun z => Fc (G.getD z 0).toNat) (M := rm.length) _ (List.range n) (fun z hz hp => by
      simp only [Bool.and_eq_true, decide_eq_true_eq] at hp
      exact hFc _ (hG.own z (List.mem_range.1 hz) hp.1).1)
  have hle : ∀ (L : List Nat) (a b : Nat → Nat), (∀ f ∈ L, a f ≤ b f) → (L.map a).sum ≤ (L.map b).sum := fun L => by
    induction L with
    | nil => intro a b _; simp
    | cons t L ih =>
      intro a b h
      have h1 := h t (by simp)
      have h2 := ih a b (fun f hf => h f (by simp [hf]))
      simp only [List.map_cons, List.sum_cons]
      omega
  have h1 : E.countP (fun z => S'.getD (Fc (g z)) false) ≤ (List.range n).countP (fun z => decide (0 ≤ G.getD z 0) && S'.getD (Fc (G.getD z 0).toNat) false) := by
    rw [hfib, hfib2]
    refine hle _ _ _ fun f hf => ?_
    rw [List.mem_range] at hf
    by_cases hs : Sin S' f
    · have h3 := (hl.full f hf hs (hno f)).1
      rw [g2 f hf, hold_count] at h3
      have e1 : E.countP (fun z => decide (Fc (g z) = f) && S'.getD (Fc (g z)) false) = E.countP (fun z => decide (Fc (g z) = f)) := List.countP_congr fun z _ => by
        by_cases e : Fc (g z) = f
        · have : S'.getD f false = true := hs
          simp [-List.getD_eq_getElem?_getD, e, this]
        · simp [-List.getD_eq_getElem?_getD, e]
      have e2 : (List.range n).countP (fun z => decide (Fc (G.getD z 0).toNat = f) && (decide (0 ≤ G.getD z 0) && S'.getD (Fc (G.getD z 0).toNat) false)) = (List.range n).countP (fun z => decide (0 ≤ G.getD z 0) && decide (Fc (G.getD z 0).toNat = f)) := count_congr fun z _ => by
        by_cases e : Fc (G.getD z 0).toNat = f
        · have : S'.getD f false = true := hs
          simp [-List.getD_eq_getElem?_getD, e, this]
        · simp [-List.getD_eq_getElem?_getD, e]
      rw [e1, e2]
      omega
    · have e1 : E.countP (fun z => decide (Fc (g z) = f) && S'.getD (Fc (g z)) false) = 0 := List.countP_eq_zero.2 fun z _ => by
        by_cases e : Fc (g z) = f
        · have : S'.getD f false = false := by unfold Sin at hs; simpa using hs
          simp [-List.getD_eq_getElem?_getD, e, this]
        · simp [-List.getD_eq_getElem?_getD, e]
      omega
  have h2 : (List.range n).countP (fun z => decide (0 ≤ G.getD z 0) && S'.getD (Fc (G.getD z 0).toNat) false) < E.countP (fun z => S'.getD (Fc (g z)) false) := by
    rw [nodup_count hnd hE]
    refine countP_strict (y := x) (fun z hz hp => ?_) (hE x hxE) ?_ ?_
    · simp only [Bool.and_eq_true, decide_eq_true_eq] at hp ⊢
      have hzE := hdone z hz hp.1
      obtain ⟨a, b⟩ := g1 z hzE
      have hof := hFc _ (hG.own z hz hp.1).1
      exact ⟨hzE, (hl.full _ hof hp.2 (hno _)).2 z (mem_hold.2 ⟨hz, hp.1, rfl⟩) _ a b⟩
    · obtain ⟨a, b⟩ := g1 x hxE
      simp only [Bool.and_eq_true, decide_eq_true_eq]
      exact ⟨hxE, hx _ a b⟩
    · rw [decide_eq_false hx0]
      rfl
  omega
/-- the program's loop: all ends find great angles just if some choice fits -/
theorem fitL_spec (hFc : ∀ h, h < M → Fc h < rm.length) {E : List Nat} (hnd : E.Nodup) (hE : ∀ z ∈ E, z < n) : ∀ (r d : List Nat) (G : List Int), d ++ r = E → GoodG V Fc n M rm G → (∀ z, z < n → (0 ≤ G.getD z 0 ↔ z ∈ d)) →
    (fitL V Fc n M rm r G = none → ¬ FitG V Fc M E rm) ∧ (∀ G', fitL V Fc n M rm r G = some G' → GoodG V Fc n M rm G' ∧ ∀ z, z < n → (0 ≤ G'.getD z 0 ↔ z ∈ E))
  | [], d, G, he, hG, hd => by
    rw [List.append_nil] at he
    subst he
    exact ⟨fun h => by simp [fitL] at h, fun G' h => by simp only [fitL, Option.some.injEq] at h; subst h; exact ⟨hG, hd⟩⟩
  | x :: r, d, G, he, hG, hd => by
    have hxE : x ∈ E := by rw [← he]; simp
    have hxd : x ∉ d := fun h => by
      rw [← he, List.nodup_append] at hnd
      exact hnd.2.2 x h x (by simp) rfl
    have hxn := hE x hxE
    have hx0 : ¬ 0 ≤ G.getD x 0 := fun h => hxd ((hd x hxn).1 h)
    have hres := settleF_res (V := V) hFc (rm.length + 1) x G (List.replicate rm.length false) (by
      have : unS (List.replicate rm.length false) ≤ rm.length := by
        unfold unS
        exact Nat.le_trans List.countP_le_length (by simp)
      omega) hG hxn (by simp) (fun h => absurd h hx0)
    unfold fitL
    by_cases hw : (settleF V Fc n M rm (rm.length + 1) x (G, List.replicate rm.length false)).1 = true
    · rw [if_pos hw]
      have W := hres.1 hw
      refine fitL_spec hFc hnd hE r (d ++ [x]) _ (by rw [List.append_assoc]; exact he) W.good fun z hz => ?_
      by_cases e : z = x
      · subst e
        exact ⟨fun _ => by simp, fun _ => W.has⟩
      · rw [W.same z hz e, hd z hz]
        simp [e]
    · rw [if_neg hw]
      obtain ⟨e, hl, hs⟩ := hres.2 (by simpa using hw)
      refine ⟨fun _ => lost_none (done := d) hFc hnd hE hxE (fun z hz h0 => by rw [← he]; exact List.mem_append_left _ ((hd z hz).1 h0)) hG hx0 hl hs, fun G' h => by cases h⟩
end
end Go.Proofs.YtelcofkjpkdjiaaGreat
/-
  angle.kind, angle.asked: what they compute. Written by an AI agent.
-/
namespace Go.Proofs.YtelcofkjpkdjiaaGreat
open Go.RowKit

/-- while a function goes: its graph, boxed, and lists -/
structure SG (w wc : World) (n : Int) (A : Option Addr) (cap : Nat) (es : List (Int × Int)) (C : Option Addr) (rs : List (List Int)) : Prop where
  b : Blk wc w.heap.size 24 #[.int .i64 n, .slice A es.length cap]
  below : Below w.heap.size w wc
  es : Cells wc wc.heap.size A (edgeCells es)
  rs : RowsAt wc wc.heap.size C rs
  lt : w.heap.size < wc.heap.size
section
variable {w wc w' : World} {n : Int} {A : Option Addr} {cap : Nat} {es : List (Int × Int)} {C : Option Addr} {rs : List (List Int)}
theorem SG.next (h : SG w wc n A cap es C rs) (hb : Below wc.heap.size wc w') : SG w w' n A cap es C rs := by
  have hz := hb.size
  have h1 := h.lt
  exact ⟨h.b.below hb h1, h.below.trans (hb.mono (Nat.le_of_lt h1)), (h.es.below hb).more hz, (h.rs.below hb).more hz, by omega⟩
theorem SG.drewN (h : SG w wc n A cap es C rs) (k : Nat) : SG w (wc.drewN k) n A cap es C rs := h.next (below_drewN (Below.refl _ _) k)
theorem SG.g0 (h : SG w wc n A cap es C rs) : wc.cell? ⟨w.heap.size, 0, none⟩ = some (.int .i64 n) := h.b.cell 0
theorem SG.g1 (h : SG w wc n A cap es C rs) : wc.cell? ⟨w.heap.size, 1, none⟩ = some (.slice A es.length cap) := h.b.cell 1
theorem SG.start (n : Int) (cap : Nat) (hes : Cells w w.heap.size A (edgeCells es)) (hrs : RowsAt w w.heap.size C rs) : SG w (w.alloc (.cells #[.int .i64 n, .slice A es.length cap] 24)) n A cap es C rs := by
  have hbw := (Below.refl w.heap.size w).alloc (Nat.le_refl _) (.cells #[.int .i64 n, .slice A es.length cap] 24)
  exact ⟨Blk.new w _ _, hbw, (hes.below hbw).more hbw.size, (hrs.below hbw).more hbw.size, by simp⟩
end
theorem kind_any (a b : Nat) (w : World) : Calls Tryz.prog 75 #[.int .i64 a, .int .i64 b] w fun e w' => e = .returned (.int .i64 (kindF a b : Nat)) ∧ w = w' := by
  have ha : Int.tmod (a : Int) 2 = ((a % 2 : Nat) : Int) := by rw [Int.tmod_eq_emod_of_nonneg (by omega)]; omega
  have hb : Int.tmod (b : Int) 2 = ((b % 2 : Nat) : Int) := by rw [Int.tmod_eq_emod_of_nonneg (by omega)]; omega
  have HK := Lib.hid (show kindF a b = if a % 2 = 0 ∧ b % 2 = 0 then 1 else if a % 2 = 1 ∧ b % 2 = 1 then 2 else 0 from rfl)
  rcases Nat.mod_two_eq_zero_or_one a with h1 | h1 <;> rcases Nat.mod_two_eq_zero_or_one b with h2 | h2
  all_goals
    rw [h1] at ha HK
    rw [h2] at hb HK
    clear h1 h2
    go_enter Tryz.func75, Tryz.ntmps75
    go_wp2_with fail
    go_ret
    exact ⟨ret_int (by rw [HK.out]; rfl), rfl⟩
/-- may a graph and a rotation be asked? -/
noncomputable def askA (n : Int) (es : List (Int × Int)) (rs : List (List Int)) : Bool := rightB n es rs && (decide (gen n es rs = 0) && (ordB rs.length es && decide (cls (Q es es.length) rs.length = 1)))
set_option maxRecDepth 20000 in
set_option maxHeartbeats 2000000 in
theorem askA_any (n : Int) (A C : Option Addr) (cap ccap : Nat) (es : List (Int × Int)) (rs : List (List Int)) (w : World) (hes : Cells w w.heap.size A (edgeCells es)) (hrs : RowsAt w w.heap.size C rs) (hr1 : rs.length ≤ 1000) (hr2 : ∀ l ∈ rs, l.length ≤ 1000) :
    Calls Tryz.prog 74 #[.agg #[.int .i64 n, .slice A es.length cap], .slice C rs.length ccap] w (fun e w' => e = .returned (.bool (askA n es rs)) ∧ Below w.heap.size w w') := by
  have S1 := Lib.hid (SG.start n cap hes hrs)
  have HR2 := Lib.hid hr2
  clear hes hrs hr2
  go_enter Tryz.func74, Tryz.ntmps74
  go_upto_region 1 with fail
  generalize w.alloc (.cells #[.int .i64 n, .slice A es.length cap] 24) = w1 at *
  have g0 := S1.out.g0
  have g1 := S1.out.g1
  go_wp2_with fail
  refine (genus_any n A C cap ccap es rs w1 S1.out.es S1.out.rs hr1 HR2.out).mono ?_
  rintro e w2 ⟨hb2, hy, hno⟩
  have S2 := Lib.hid (S1.out.next hb2)
  have g0 := S2.out.g0
  have g1 := S2.out.g1
  clear hb2 S1
  obtain ⟨hi1, hi2, hi3⟩ := @vE_in n es
  have HI3 := Lib.hid hi3
  clear hi3
  cases hm : rightB n es rs with
  | false =>
    have he := hno hm
    subst he
    have HF := Lib.hid (show askA n es rs = false by unfold askA; rw [hm]; rfl)
    clear hm hy hno
    go_wp2_with fail
    refine (view_any n A cap es w2 S2.out.es).mono ?_
    rintro e w3 ⟨gv, rfl, hb3, hv3⟩
    have S3 := Lib.hid (S2.out.next hb3)
    have HV3 := Lib.hid hv3
    clear hb3 hv3 S2
    go_wp2_with fail
    refine (order_any gv (vN n es) (vE n es) w3 HV3.out HI3.out hi1 hi2).mono ?_
    rintro e w4 ⟨v, rfl, hb4, _⟩
    have S4 := Lib.hid (S3.out.next hb4)
    clear hb4 S3
    go_wp2_with fail
    go_ret
    exact ⟨ret_bool HF.out.symm, S4.out.below⟩
  | true =>
    have he := hy hm
    subst he
    have HP := Lib.hid (right_iff.1 hm)
    have HM := Lib.hid hm
    have hmay := right_may hm
    have HMAY := Lib.hid hmay
    obtain ⟨hn0, hn1, hn2⟩ := may_parts hmay
    have hln := HP.out.len
    obtain ⟨N, rfl⟩ : ∃ k : Nat, n = k := ⟨n.toNat, by omega⟩
    have hNr : rs.length = N := by omega
    have HA := Lib.hid (show askA N es rs = (decide (gen N es rs = 0) && (ordB N es && decide (cls (Q es es.length) N = 1))) by unfold askA; rw [hm, hNr]; rfl)
    have HVE := Lib.hid (show vN N es = N ∧ vE N es = es by unfold vN vE; rw [hmay]; exact ⟨rfl, rfl⟩)
    obtain ⟨q, hq⟩ : ∃ q, q = gen N es rs := ⟨_, rfl⟩
    rw [← hq] at HA
    rw [← hq]
    have hqb : q ≤ 1000000 := by
      have := gen_spec HP.out (right_inN HP.out)
      have hcl : cls (Q es es.length) rs.length ≤ rs.length := Nat.le_trans List.countP_le_length (by simp)
      omega
    clear hy hno hm hmay hq
    go_wp2_with fail
    refine (view_any N A cap es w2 S2.out.es).mono ?_
    rintro e w3 ⟨gv, rfl, hb3, hv3⟩
    have S3 := Lib.hid (S2.out.next hb3)
    have HV3 := Lib.hid hv3
    clear hb3 hv3 S2
    go_wp2_with fail
    refine (order_any gv (vN N es) (vE N es) w3 HV3.out HI3.out hi1 hi2).mono ?_
    rintro e w4 ⟨v, rfl, hb4, _⟩
    have S4 := Lib.hid (S3.out.next hb4)
    have g0 := S4.out.g0
    have g1 := S4.out.g1
    rw [HVE.out.1, HVE.out.2]
    clear hb4 S3
    by_cases hq0 : q = 0
    · subst hq0
      cases ho : ordB N es with
      | false =>
        have HF := Lib.hid (show askA N es rs = false by rw [HA.out, ho]; rfl)
        clear ho
        go_wp2_with fail
        go_ret
        exact ⟨ret_bool HF.out.symm, S4.out.below⟩
      | true =>
        have HF := Lib.hid (show askA N es rs = decide (cls (Q es es.length) N = 1) by rw [HA.out, ho]; rfl)
        clear ho
        go_wp2_with fail
        refine (parts0_is N A cap es w4 S4.out.es HMAY.out).mono ?_
        rintro e w5 ⟨A5, c5, rfl, hb5⟩
        have S5 := Lib.hid (S4.out.next hb5)
        have hcl : cls (Q es es.length) N ≤ N := Nat.le_trans List.countP_le_length (by simp)
        clear hb5 S4
        generalize cls (Q es es.length) N = c at *
        by_cases hc : c = 1
        · subst hc
          go_wp2_with fail
          go_ret
          exact ⟨ret_bool HF.out.symm, S5.out.below⟩
        · have hc' : ((c : Int) == 1) = false := by rw [beq_eq_false_iff_ne]; omega
          have HF2 := Lib.hid (show askA N es rs = false by rw [HF.out, decide_eq_false hc])
          clear hc
          go_wp2_with fail
          go_ret
          exact ⟨ret_bool HF2.out.symm, S5.out.below⟩
    · have hq' : ((q : Int) == 0) = false := by rw [beq_eq_false_iff_ne]; omega
      have HF := Lib.hid (show askA N es rs = false by rw [HA.out, decide_eq_false hq0]; rfl)
      clear hq0
      go_wp2_with fail
      go_ret
      exact ⟨ret_bool HF.out.symm, S4.out.below⟩
end Go.Proofs.YtelcofkjpkdjiaaGreat
/-
  angle.Bimodal: what it computes. Written by an AI agent.
-/
namespace Go.Proofs.YtelcofkjpkdjiaaGreat
open Go.RowKit

/-- the kind of a list's j-th angle -/
def kL (l : List Int) (j : Nat) : Nat := kindF (l.getD j 0).toNat (l.getD ((j + 1) % l.length) 0).toNat
def plU (l : List Int) (i : Nat) : Nat := (List.range i).countP fun j => decide (kL l j = 0)
def bimB (rs : List (List Int)) : Bool := rs.all fun l => decide (plU l l.length ≤ 2)
theorem plU_succ (l : List Int) (i : Nat) : plU l (i + 1) = plU l i + if kL l i = 0 then 1 else 0 := by
  unfold plU
  rw [List.range_succ, List.countP_append]
  simp
theorem plU_le (l : List Int) (i : Nat) : plU l i ≤ i := Nat.le_trans List.countP_le_length (by simp)
theorem ask_right {n : Int} {es : List (Int × Int)} {rs : List (List Int)} (h : askA n es rs = true) : RightP n es rs := by
  unfold askA at h
  exact right_iff.1 (Bool.and_eq_true _ _ ▸ h).1
set_option maxRecDepth 20000 in
set_option maxHeartbeats 2000000 in
theorem bimo_any (n : Int) (A C : Option Addr) (cap ccap : Nat) (es : List (Int × Int)) (rs : List (List Int)) (w : World) (hes : Cells w w.heap.size A (edgeCells es)) (hrs : RowsAt w w.heap.size C rs) (hr1 : rs.length ≤ 1000) (hr2 : ∀ l ∈ rs, l.length ≤ 1000) :
    Calls Tryz.prog 43 #[.agg #[.int .i64 n, .slice A es.length cap], .slice C rs.length ccap] w (fun e w' => e = .returned (.bool (askA n es rs && bimB rs)) ∧ Below w.heap.size w w') := by
  have S1 := Lib.hid (SG.start n cap hes hrs)
  have HR2 := Lib.hid hr2
  clear hes hrs hr2
  go_enter Tryz.func43, Tryz.ntmps43
  go_upto_region 1 with fail
  generalize w.alloc (.cells #[.int .i64 n, .slice A es.length cap] 24) = w1 at *
  have g0 := S1.out.g0
  have g1 := S1.out.g1
  go_wp2_with fail
  refine (askA_any n A C cap ccap es rs w1 S1.out.es S1.out.rs hr1 HR2.out).mono ?_
  rintro e w2 ⟨rfl, hb2⟩
  have S2 := Lib.hid (S1.out.next hb2)
  clear hb2 S1 g0 g1
  cases ha : askA n es rs with
  | false =>
    have HA := Lib.hid ha
    clear ha
    go_wp2_with fail
    go_ret
    exact ⟨ret_bool (by rw [HA.out]; rfl), S2.out.below⟩
  | true =>
    have HP := Lib.hid (ask_right ha)
    have HA := Lib.hid ha
    clear ha
    go_wp2_with fail
    go_loopg [16] rs.length (fun k s16 wr => ∃ i : Nat, s16 = .int .i64 i ∧ i ≤ rs.length ∧ k = rs.length - i ∧ w2 = wr ∧ ∀ j (h : j < rs.length), j < i → plU rs[j] rs[j].length ≤ 2)
    case atStart => exact ⟨0, rfl, Nat.zero_le _, rfl, rfl, fun j _ h => absurd h (Nat.not_lt_zero _)⟩
    case round =>
      obtain ⟨i, rfl, hi, hk, rfl, hd⟩ := hrel
      have Hk := Lib.hid hk
      have HD := Lib.hid hd
      clear hk hd
      by_cases hil : i < rs.length
      · have hil' : (i : Int) < rs.length := by omega
        obtain ⟨b, off, rfl, hbb, hcc⟩ := S2.out.rs (by omega)
        obtain ⟨Ai, ci, zi, hCi⟩ := hcc i hil
        have HCI := Lib.hid hCi
        have HAT := Lib.hid (fun t (ht : t < rs[i].length) => HP.out.nat hil ht)
        have HN := Lib.hid (fun (h : plU rs[i] rs[i].length ≤ 2) (j : Nat) (hj : j < rs.length) (hji : j < i + 1) => (by
          by_cases e : j = i
          · subst e; exact h
          · exact HD.out j hj (by omega) : plU rs[j] rs[j].length ≤ 2))
        have HF := Lib.hid (fun (h : ¬ plU rs[i] rs[i].length ≤ 2) => (by
          unfold bimB
          rw [List.all_eq_false]
          exact ⟨rs[i], List.getElem_mem hil, by simpa using h⟩ : bimB rs = false))
        have hll : rs[i].length ≤ 1000 := HR2.out _ (List.getElem_mem hil)
        generalize rs[i] = l at *
        clear hcc hCi
        go_wp2_with fail
        clear zi
        go_loopg [7, 22] l.length (fun k s7 s22 wr => ∃ j : Nat, s22 = .int .i64 j ∧ s7 = .int .i64 (plU l j : Nat) ∧ j ≤ l.length ∧ k = l.length - j ∧ w2 = wr)
        case atStart => exact ⟨0, rfl, rfl, Nat.zero_le _, rfl, rfl⟩
        case round =>
          obtain ⟨j, rfl, rfl, hj, hk2, rfl⟩ := hrel
          have Hk2 := Lib.hid hk2
          clear hk2
          have hpl := plU_le l j
          by_cases hjl : j < l.length
          · have hjl' : (j : Int) < l.length := by omega
            obtain ⟨bi, oi, rfl, _, hci⟩ := HCI.out.ints (by omega)
            have hml : (j + 1) % l.length < l.length := Nat.mod_lt _ (by omega)
            obtain ⟨x, hx, _⟩ := HAT.out j hjl
            obtain ⟨y, hy, _⟩ := HAT.out ((j + 1) % l.length) hml
            have cx := hci j hjl
            have cy := hci ((j + 1) % l.length) hml
            rw [hx] at cx
            rw [hy] at cy
            have hmod : Int.tmod ((j : Int) + 1) (l.length : Int) = (((j + 1) % l.length : Nat) : Int) := by
              rw [Int.tmod_eq_emod_of_nonneg (by omega)]; simp
            have hml' : ((((j + 1) % l.length : Nat)) : Int) < l.length := by omega
            have HK := Lib.hid (show plU l (j + 1) = plU l j + if kindF x y = 0 then 1 else 0 by
              rw [plU_succ]
              unfold kL
              rw [List.getD_eq_getElem?_getD, List.getElem?_eq_getElem hjl, List.getD_eq_getElem?_getD, List.getElem?_eq_getElem hml]
              simp [hx, hy])
            have hkd := kind_any x y w2
            have hlne : ¬ (l.length : Int) = 0 := by omega
            generalize (j + 1) % l.length = m at *
            obtain ⟨kd, hkd2⟩ : ∃ kd, kd = kindF x y := ⟨_, rfl⟩
            rw [← hkd2] at hkd HK
            generalize plU l j = u at *
            have hkb : kd ≤ 2 := by rw [hkd2]; unfold kindF; split <;> (try split) <;> omega
            clear hci hx hy hkd2
            go_wp2_with fail
            refine hkd.mono ?_
            rintro e w3 ⟨rfl, rfl⟩
            clear hkd cx cy
            by_cases hk0 : kd = 0
            · subst hk0
              go_wp2_with fail
              go_roundg (l.length - (j + 1))
              case measure => rw [Hk2.out]; omega
              case rel => exact ⟨j + 1, by go_num, by rw [HK.out]; go_num, by omega, rfl, rfl⟩
            · have hk0' : ((kd : Int) == 0) = false := by rw [beq_eq_false_iff_ne]; omega
              have HK3 := Lib.hid (show plU l (j + 1) = u by rw [HK.out, if_neg hk0]; rfl)
              clear hk0
              go_wp2_with fail
              go_roundg (l.length - (j + 1))
              case measure => rw [Hk2.out]; omega
              case rel => exact ⟨j + 1, by go_num, by rw [HK3.out], by omega, rfl, rfl⟩
          · have hje : j = l.length := by omega
            have hjl' : ¬ (j : Int) < l.length := by omega
            have HPE := Lib.hid (show plU l j = plU l l.length by rw [hje])
            generalize plU l j = u at *
            clear hje
            by_cases hu : u ≤ 2
            · have hu' : ¬ (2 : Int) < u := by omega
              have HN2 := Lib.hid (HN.out (by rw [← HPE.out]; exact hu))
              go_wp2_with fail
              go_roundg (rs.length - (i + 1))
              case measure => rw [Hk.out]; omega
              case rel => exact ⟨i + 1, by go_num, by omega, rfl, rfl, HN2.out⟩
            · have hu' : (2 : Int) < u := by omega
              have HF2 := Lib.hid (HF.out (by rw [← HPE.out]; exact hu))
              go_wp2_with fail
              go_ret
              exact ⟨ret_bool (by rw [HF2.out, HA.out]; rfl), S2.out.below⟩
      · have hil' : ¬ (i : Int) < rs.length := by omega
        have HT := Lib.hid (show bimB rs = true by
          unfold bimB
          rw [List.all_eq_true]
          intro l hl
          obtain ⟨j, hj, rfl⟩ := List.getElem_of_mem hl
          simpa using HD.out j hj (by omega))
        go_wp2_with fail
        go_ret
        exact ⟨ret_bool (by rw [HT.out, HA.out]; rfl), S2.out.below⟩
end Go.Proofs.YtelcofkjpkdjiaaGreat
