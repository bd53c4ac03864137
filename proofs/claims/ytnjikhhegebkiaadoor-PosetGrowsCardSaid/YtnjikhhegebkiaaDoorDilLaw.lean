/-
  Plain law: the chains of a pairing, and what is apart: as many. Written by an AI agent.
-/
import Derived.Test.YtnjikhhegebkiaaDoorChains
import Derived.Test.YtnjikhhegebkiaaDoorAltLaw
namespace Go.Proofs.YtnjikhhegebkiaaDoor

/-- no more than chains that have each one of them, where no two of them lie in one -/
theorem cover_le : ∀ (ls : List (List Int)) (a : List Int), a.Nodup → (∀ z ∈ a, ∃ l ∈ ls, z ∈ l) → (∀ l ∈ ls, ∀ z ∈ a, ∀ z' ∈ a, z ∈ l → z' ∈ l → z = z') → a.length ≤ ls.length
  | [], a, _, hc, _ => by
    cases a with
    | nil => simp
    | cons z r => obtain ⟨l, hl, _⟩ := hc z (by simp); cases hl
  | l :: ls, a, hn, hc, h1 => by
    have h2 := cover_le ls (a.filter fun z => !l.contains z) (hn.filter _) (fun z hz => by
      rw [List.mem_filter] at hz
      obtain ⟨l', hl', hz'⟩ := hc z hz.1
      rcases List.mem_cons.1 hl' with rfl | hl'
      · have := hz.2
        simp [hz'] at this
      · exact ⟨l', hl', hz'⟩) (fun l' hl' z hz z' hz' => h1 l' (by simp [hl']) z (List.mem_filter.1 hz).1 z' (List.mem_filter.1 hz').1)
    have h3 : a.length ≤ (a.filter fun z => !l.contains z).length + 1 := by
      have hsplit := List.length_eq_countP_add_countP (p := fun z => !l.contains z) (l := a)
      rw [List.countP_eq_length_filter, List.countP_eq_length_filter] at hsplit
      have hle : (a.filter fun z => decide ¬(!l.contains z) = true).length ≤ 1 := by
        have hn2 : (a.filter fun z => decide ¬(!l.contains z) = true).Nodup := hn.filter _
        have hm : ∀ z ∈ (a.filter fun z => decide ¬(!l.contains z) = true), z ∈ a ∧ z ∈ l := fun z hz => by
          rw [List.mem_filter] at hz
          exact ⟨hz.1, by simpa using hz.2⟩
        generalize (a.filter fun z => decide ¬(!l.contains z) = true) = c at *
        match c, hn2, hm with
        | [], _, _ => simp
        | [z], _, _ => simp
        | z :: z' :: r, hn2, hm =>
          exfalso
          have e := h1 l (by simp) z (hm z (by simp)).1 z' (hm z' (by simp)).1 (hm z (by simp)).2 (hm z' (by simp)).2
          subst e
          simp at hn2
      omega
    rw [List.length_cons]
    omega
/-- no fewer than lists without a common one, each of which has one of them -/
theorem disj_le (a : List Int) : ∀ (ls : List (List Int)), ls.flatten.Nodup → (∀ l ∈ ls, ∃ z ∈ l, z ∈ a) → ls.length ≤ a.length := by
  have key : ∀ (ls : List (List Int)), ls.flatten.Nodup → (∀ l ∈ ls, ∃ z ∈ l, z ∈ a) → ∃ c : List Int, c.length = ls.length ∧ c.Nodup ∧ c ⊆ a ∧ c ⊆ ls.flatten := by
    intro ls
    induction ls with
    | nil => intro _ _; exact ⟨[], rfl, List.nodup_nil, by simp, by simp⟩
    | cons l ls ih =>
      intro hn h
      rw [List.flatten_cons, List.nodup_append] at hn
      obtain ⟨_, hn2, hd⟩ := hn
      obtain ⟨c, h1, h2, h3, h4⟩ := ih hn2 fun l' hl' => h l' (by simp [hl'])
      obtain ⟨z, hz, hza⟩ := h l (by simp)
      refine ⟨z :: c, by simp [h1], List.nodup_cons.2 ⟨fun hm => hd z hz z (h4 hm) rfl, h2⟩, ?_, ?_⟩
      · intro y hy
        rcases List.mem_cons.1 hy with rfl | hy
        · exact hza
        · exact h3 hy
      · intro y hy
        rw [List.flatten_cons, List.mem_append]
        rcases List.mem_cons.1 hy with rfl | hy
        · exact .inl hz
        · exact .inr (h4 hy)
  intro ls hn h
  obtain ⟨c, h1, h2, h3, _⟩ := key ls hn h
  rw [← h1]
  exact List.Nodup.length_le_of_subset h2 h3
/-- chains that have each vertex once, and as many vertices that are apart -/
structure Dil (n : Nat) (Ab : List Nat) (ls : List (List Int)) (a : List Int) : Prop where
  flat : ls.flatten.Nodup
  rng : ∀ z ∈ ls.flatten, ∃ k : Nat, z = k ∧ k < n
  all : ∀ k : Nat, k < n → (k : Int) ∈ ls.flatten
  ne : ∀ l ∈ ls, l ≠ []
  step : ∀ l ∈ ls, ∀ i (h : i + 1 < l.length), ∃ a b : Nat, l[i] = a ∧ l[i + 1] = b ∧ a < n ∧ b < n ∧ Up Ab a b
  rise : a.Pairwise (· < ·)
  arng : ∀ z ∈ a, ∃ k : Nat, z = k ∧ k < n
  anti : ∀ z z' : Nat, (z : Int) ∈ a → (z' : Int) ∈ a → ¬ Up Ab z z'
  len : ls.length = a.length
/-- steps, one by one, each of which rises -/
def Steps (n : Nat) (Ab : List Nat) (l : List Int) : Prop := ∀ i (h : i + 1 < l.length), ∃ a b : Nat, l[i] = a ∧ l[i + 1] = b ∧ a < n ∧ b < n ∧ Up Ab a b
theorem steps_up {n : Nat} {Ab : List Nat} (hT : ∀ a b c, a < n → Up Ab a b → Up Ab b c → Up Ab a c) {l : List Int} (hs : Steps n Ab l) : ∀ d i (h : i + d + 1 < l.length), ∃ a b : Nat, l[i] = a ∧ l[i + d + 1] = b ∧ a < n ∧ b < n ∧ Up Ab a b
  | 0, i, h => hs i h
  | d + 1, i, h => by
    obtain ⟨a, b, h1, h2, h3, h4, h5⟩ := steps_up hT hs d i (by omega)
    obtain ⟨b', c, h6, h7, h8, h9, h10⟩ := hs (i + d + 1) (by omega)
    have : b = b' := by omega
    subst this
    exact ⟨a, c, h1, h7, h3, h9, hT a b c h3 h5 h10⟩
theorem steps_one {n : Nat} {Ab : List Nat} (hT : ∀ a b c, a < n → Up Ab a b → Up Ab b c → Up Ab a c) {l a : List Int} (hs : Steps n Ab l) (hanti : ∀ z z' : Nat, (z : Int) ∈ a → (z' : Int) ∈ a → ¬ Up Ab z z') {z z' : Int} (hz : z ∈ a) (hz' : z' ∈ a) (hl : z ∈ l) (hl' : z' ∈ l) : z = z' := by
  obtain ⟨i, hi, rfl⟩ := List.getElem_of_mem hl
  obtain ⟨j, hj, rfl⟩ := List.getElem_of_mem hl'
  rcases Nat.lt_trichotomy i j with h | h | h
  · obtain ⟨d, rfl⟩ : ∃ d, j = i + d + 1 := ⟨j - i - 1, by omega⟩
    obtain ⟨p, q, h1, h2, _, _, h5⟩ := steps_up hT hs d i hj
    rw [h1] at hz
    rw [h2] at hz'
    exact absurd h5 (hanti p q hz hz')
  · subst h; rfl
  · obtain ⟨d, rfl⟩ : ∃ d, i = j + d + 1 := ⟨i - j - 1, by omega⟩
    obtain ⟨p, q, h1, h2, _, _, h5⟩ := steps_up hT hs d j hi
    rw [h1] at hz'
    rw [h2] at hz
    exact absurd h5 (hanti p q hz' hz)
section
variable {n : Nat} {Ab : List Nat} {t : St} {L : Nat → Nat}
theorem nx_get (t : St) (y : Nat) : t.nx.getD y 0 = nxt t y := rfl
/-- a chain's words -/
structure Ch (n : Nat) (t : St) (L : Nat → Nat) (y : Nat) (l : List Int) : Prop where
  fst : (y : Int) ∈ l
  mem : ∀ z ∈ l, ∃ k : Nat, z = k ∧ k < n ∧ L y ≤ L k
  nd : l.Nodup
  last : ∃ e : Nat, (e : Int) ∈ l ∧ e < n ∧ nxt t e = -1
  step : ∀ i (h : i + 1 < l.length), ∃ a b : Nat, l[i] = a ∧ l[i + 1] = b ∧ a < n ∧ b < n ∧ nxt t a = b
  back : ∀ z : Nat, (z : Int) ∈ l → z ≠ y → ∃ p : Nat, (p : Int) ∈ l ∧ p < n ∧ nxt t p = z
  forth : ∀ z : Nat, (z : Int) ∈ l → nxt t z ≠ -1 → nxt t z ∈ l
  ne : l ≠ []
theorem chain_ch (hg : Good n Ab (nxt t) (bck t)) (hR : Ranked n Ab L) : ∀ (f y : Nat), y < n → n + 1 ≤ L y + f → Ch n t L y (chainF t.nx f (y : Int))
  | 0, y, hy, h => by have := hR.2 y hy; omega
  | f + 1, y, hy, h => by
    rw [chainF_pos, nx_get]
    rcases hg.n1 y hy with h1 | ⟨z, h1, hz, hu⟩
    · rw [h1, chainF_end]
      refine ⟨by simp, fun z hz => ⟨y, by simpa using hz, hy, Nat.le_refl _⟩, by simp, ⟨y, by simp, hy, h1⟩, fun i hi => by simp at hi, fun z hz hne => ?_, fun z hz hne => ?_, by simp⟩
      · exact absurd (show z = y by have : (z : Int) = y := by simpa using hz
                                    omega) hne
      · have : z = y := by have : (z : Int) = y := by simpa using hz
                           omega
        subst this
        exact absurd h1 hne
    · have hlt := hR.1 y z hy hu
      have ih := chain_ch hg hR f z hz (by omega)
      rw [h1]
      refine ⟨by simp, fun w hw => ?_, ?_, ?_, fun i hi => ?_, fun w hw hne => ?_, fun w hw hne => ?_, by simp⟩
      · rcases List.mem_cons.1 hw with hw | hw
        · exact ⟨y, hw, hy, Nat.le_refl _⟩
        · obtain ⟨k, a, b, c⟩ := ih.mem w hw
          exact ⟨k, a, b, by omega⟩
      · rw [List.nodup_cons]
        refine ⟨fun hm => ?_, ih.nd⟩
        obtain ⟨k, a, b, c⟩ := ih.mem _ hm
        have : k = y := by omega
        subst this
        omega
      · obtain ⟨e, a, b⟩ := ih.last
        exact ⟨e, by simp [a], b⟩
      · cases i with
        | zero =>
          obtain ⟨f', hf'⟩ : ∃ f', f = f' + 1 := ⟨f - 1, by have := hR.2 z hz; omega⟩
          subst hf'
          refine ⟨y, z, rfl, ?_, hy, hz, h1⟩
          simp [chainF_pos]
        | succ i => 
          obtain ⟨a, b, h2, h3, h4⟩ := ih.step i (by simpa using hi)
          exact ⟨a, b, by simpa using h2, by simpa using h3, h4⟩
      · rcases List.mem_cons.1 hw with hw | hw
        · exact absurd (by omega) hne
        · by_cases hwz : w = z
          · subst hwz; exact ⟨y, by simp, hy, h1⟩
          · obtain ⟨p, a, b⟩ := ih.back w hw hwz
            exact ⟨p, by simp [a], b⟩
      · rcases List.mem_cons.1 hw with hw | hw
        · have : w = y := by omega
          subst this
          rw [h1]
          exact List.mem_cons_of_mem _ ih.fst
        · exact List.mem_cons_of_mem _ (ih.forth w hw hne)
theorem bck_of (hg : Good n Ab (nxt t) (bck t)) {p z : Nat} (hp : p < n) (hz : z < n) (h : nxt t p = (z : Int)) : bck t z = (p : Int) := (hg.iff p z hp hz).1 h
theorem up_of (hg : Good n Ab (nxt t) (bck t)) {p z : Nat} (hp : p < n) (h : nxt t p = (z : Int)) : Up Ab p z := by
  rcases hg.n1 p hp with h1 | ⟨y, h1, _, hu⟩
  · omega
  · have : y = z := by omega
    subst this; exact hu
/-- chains of two beginnings have nothing in common -/
theorem chain_disj (hg : Good n Ab (nxt t) (bck t)) (hR : Ranked n Ab L) {x x' : Nat} {l l' : List Int} (hl : Ch n t L x l) (hl' : Ch n t L x' l') (hx : bck t x = -1) (hx' : bck t x' = -1) :
    ∀ (d z : Nat), L z < d → (z : Int) ∈ l → (z : Int) ∈ l' → x = x'
  | 0, z, h, _, _ => absurd h (Nat.not_lt_zero _)
  | d + 1, z, h, hz, hz' => by
    obtain ⟨k, hk, hkn, _⟩ := hl.mem _ hz
    have hzn : z < n := by omega
    by_cases e : z = x
    · by_cases e' : z = x'
      · omega
      · obtain ⟨p, _, hp, hpz⟩ := hl'.back z hz' e'
        have := bck_of hg hp hzn hpz
        subst e
        omega
    · obtain ⟨p, hpm, hp, hpz⟩ := hl.back z hz e
      have hb := bck_of hg hp hzn hpz
      by_cases e' : z = x'
      · subst e'; omega
      · obtain ⟨p', hpm', hp', hpz'⟩ := hl'.back z hz' e'
        have hb' := bck_of hg hp' hzn hpz'
        have hpp : p = p' := by omega
        subst hpp
        have := hR.1 p z hp (up_of hg hp hpz)
        exact chain_disj hg hR hl hl' hx hx' d p (by omega) hpm hpm'
theorem mem_startsF {pv : List Int} {k x : Nat} : x ∈ startsF pv k ↔ x < k ∧ pv.getD x 0 = -1 := by
  unfold startsF
  rw [List.mem_filter, List.mem_range]
  simp
/-- each vertex lies in a chain -/
theorem chain_all (hg : Good n Ab (nxt t) (bck t)) (hR : Ranked n Ab L) : ∀ (d y : Nat), y < n → L y < d → ∃ x ∈ startsF t.pv n, (y : Int) ∈ chainF t.nx (n + 1) (x : Int)
  | 0, y, _, h => absurd h (Nat.not_lt_zero _)
  | d + 1, y, hy, h => by
    rcases hg.v1 y hy with h1 | ⟨p, h1, hp⟩
    · exact ⟨y, mem_startsF.2 ⟨hy, h1⟩, (chain_ch hg hR (n + 1) y hy (by omega)).fst⟩
    · have hn := (hg.iff p y hp hy).2 h1
      have := hR.1 p y hp (up_of hg hp hn)
      obtain ⟨x, hx, hm⟩ := chain_all hg hR d p hp (by omega)
      have hc := chain_ch hg hR (n + 1) x (mem_startsF.1 hx).1 (by omega)
      have := hc.forth p hm (by omega)
      rw [hn] at this
      exact ⟨x, hx, this⟩
theorem chain_mem {ls : List (List Int)} (hl : ls = chainsF n t.nx t.pv n) {l : List Int} (h : l ∈ ls) : ∃ x ∈ startsF t.pv n, l = chainF t.nx (n + 1) (x : Int) := by
  subst hl
  unfold chainsF at h
  obtain ⟨x, hx, rfl⟩ := List.mem_map.1 h
  exact ⟨x, hx, rfl⟩
/-- one of what is apart lies in each chain -/
theorem chain_hit {B M : Nat} (hg : Good n Ab (nxt t) (bck t)) (hR : Ranked n Ab L) (hA : Alt n Ab t B M [] none) (hM : ∀ y, y < n → Bit M y → bck t y ≠ -1) {x : Nat} {l : List Int} (hl : Ch n t L x l) (hx : bck t x = -1) :
    ∀ (d z : Nat), L z < d → (z : Int) ∈ l → Bit B z → ∃ w : Nat, (w : Int) ∈ l ∧ w < n ∧ Bit B w ∧ ¬ Bit M w
  | 0, z, h, _, _ => absurd h (Nat.not_lt_zero _)
  | d + 1, z, h, hz, hb => by
    obtain ⟨k, hk, hkn, _⟩ := hl.mem _ hz
    have hzn : z < n := by omega
    by_cases hm : Bit M z
    · rcases hA.back z hm with h1 | ⟨p, h1, hp, h3⟩
      · exact absurd h1 (hM z hzn hm)
      · have hpb : Bit B p := h3.resolve_right (by simp)
        have hn := (hg.iff p z hp hzn).2 h1
        have hzx : z ≠ x := fun e => by subst e; omega
        obtain ⟨p', hpm, hp', hpz⟩ := hl.back z hz hzx
        have hb' := bck_of hg hp' hzn hpz
        have : p' = p := by omega
        subst this
        have := hR.1 p' z hp' (up_of hg hp' hpz)
        exact chain_hit hg hR hA hM hl hx d p' (by omega) hpm hpb
    · exact ⟨z, hz, hzn, hb, hm⟩
theorem dil_of {B M : Nat} (hJ : Joined n Ab n t) (hR : Ranked n Ab L) (hT : ∀ a b c, a < n → Up Ab a b → Up Ab b c → Up Ab a c) (hAb : AbOk n Ab) (hA : Alt n Ab t B M [] none) :
    Dil n Ab (chainsF n t.nx t.pv n) (apartF B M n) := by
  have hg := hJ.good
  obtain ⟨D, hD, hfree⟩ := hJ.free
  have hlow := hA.low D hD fun a ha h => hfree a ha ha h
  have hM : ∀ y, y < n → Bit M y → bck t y ≠ -1 := fun y hy hm => by
    obtain ⟨z, hz, _⟩ := hD y hy (hlow.2 y hm)
    omega
  have hch : ∀ x, x ∈ startsF t.pv n → Ch n t L x (chainF t.nx (n + 1) (x : Int)) ∧ bck t x = -1 := fun x hx => by
    obtain ⟨h1, h2⟩ := mem_startsF.1 hx
    exact ⟨chain_ch hg hR (n + 1) x h1 (by omega), h2⟩
  have hanti : ∀ z z' : Nat, (z : Int) ∈ apartF B M n → (z' : Int) ∈ apartF B M n → ¬ Up Ab z z' := fun z z' h1 h2 hu => by
    obtain ⟨a, ha, _, hab, _⟩ := mem_apartF.1 h1
    obtain ⟨b, hb, _, _, hbm⟩ := mem_apartF.1 h2
    have : a = z := by omega
    have : b = z' := by omega
    subst a b
    exact hbm (hA.up z hab (by simp) z' hu)
  have hrise : (apartF B M n).Pairwise (· < ·) := by
    unfold apartF
    rw [List.pairwise_map]
    refine List.Pairwise.imp (fun h => Int.ofNat_lt.2 h) (List.Pairwise.filter _ ?_)
    exact List.pairwise_lt_range
  have hnd : (apartF B M n).Nodup := hrise.imp fun h => Int.ne_of_lt h
  have hflat : (chainsF n t.nx t.pv n).flatten.Nodup := by
    unfold List.Nodup
    rw [List.pairwise_flatten]
    refine ⟨fun l hl => ?_, ?_⟩
    · obtain ⟨x, hx, rfl⟩ := chain_mem rfl hl
      exact (hch x hx).1.nd
    · unfold chainsF
      rw [List.pairwise_map]
      have hs : (startsF t.pv n).Pairwise (· < ·) := List.Pairwise.filter _ List.pairwise_lt_range
      refine List.Pairwise.imp_of_mem (fun {x x'} hx hx' hlt => ?_) hs
      intro z hz z' hz' e
      subst e
      obtain ⟨k, hk, _⟩ := (hch x hx).1.mem z hz
      subst hk
      have := chain_disj hg hR (hch x hx).1 (hch x' hx').1 (hch x hx).2 (hch x' hx').2 (L k + 1) k (by omega) hz hz'
      omega
  have hall : ∀ k : Nat, k < n → ∃ l ∈ chainsF n t.nx t.pv n, (k : Int) ∈ l := fun k hk => by
    obtain ⟨x, hx, hm⟩ := chain_all hg hR (L k + 1) k hk (by omega)
    exact ⟨_, List.mem_map.2 ⟨x, hx, rfl⟩, hm⟩
  refine ⟨hflat, fun z hz => ?_, fun k hk => List.mem_flatten.2 (hall k hk), fun l hl => ?_, fun l hl i hi => ?_, hrise, fun z hz => ?_, hanti, Nat.le_antisymm ?_ ?_⟩
  · obtain ⟨l, hl, hz⟩ := List.mem_flatten.1 hz
    obtain ⟨x, hx, rfl⟩ := chain_mem rfl hl
    obtain ⟨k, a, b, _⟩ := (hch x hx).1.mem z hz
    exact ⟨k, a, b⟩
  · obtain ⟨x, hx, rfl⟩ := chain_mem rfl hl
    exact (hch x hx).1.ne
  · obtain ⟨x, hx, rfl⟩ := chain_mem rfl hl
    obtain ⟨a, b, h1, h2, h3, h4, h5⟩ := (hch x hx).1.step i hi
    exact ⟨a, b, h1, h2, h3, h4, up_of hg h3 h5⟩
  · obtain ⟨a, ha, h1, _⟩ := mem_apartF.1 hz
    exact ⟨a, ha, h1⟩
  · refine disj_le _ _ hflat fun l hl => ?_
    obtain ⟨x, hx, rfl⟩ := chain_mem rfl hl
    obtain ⟨hc, hb⟩ := hch x hx
    obtain ⟨e, he, hen, hl⟩ := hc.last
    obtain ⟨w, hw, hwn, hwb, hwm⟩ := chain_hit hg hR hA hM hc hb (L e + 1) e (by omega) he ((hA.free e hen hl).resolve_right (by simp))
    exact ⟨w, hw, mem_apartF.2 ⟨w, rfl, hwn, hwb, hwm⟩⟩
  · refine cover_le _ _ hnd (fun z hz => ?_) fun l hl z hz z' hz' hzl hzl' => ?_
    · obtain ⟨a, ha, h1, _⟩ := mem_apartF.1 hz
      subst ha
      exact hall a h1
    · refine steps_one hT (l := l) (fun i hi => ?_) hanti hz hz' hzl hzl'
      obtain ⟨x, hx, rfl⟩ := chain_mem rfl hl
      obtain ⟨a, b, h1, h2, h3, h4, h5⟩ := (hch x hx).1.step i hi
      exact ⟨a, b, h1, h2, h3, h4, up_of hg h3 h5⟩
end
/-- reaching goes on -/
theorem up_trans {n : Nat} {es : List (Int × Int)} {T : List Nat} (hin : InN n es) (hn : n ≤ 64) (h : Grown1 false (fun _ => true) n es T) {L : Nat → Nat} (hR : Ranked n (abF T n) L) : ∀ a b c, a < n → Up (abF T n) a b → Up (abF T n) b c → Up (abF T n) a c := by
  intro a b c ha h1 h2
  have hb := (abF_ok hin hn h).bit a b h1
  have l1 := hR.1 a b ha h1
  have l2 := hR.1 b c hb h2
  obtain ⟨_, hs⟩ := grown_iff hin h
  unfold Up at h1 h2 ⊢
  rw [abF_at ha, offB_has (h.1.at_ a) (by omega)] at h1 ⊢
  rw [abF_at hb, offB_has (h.1.at_ b) (by omega)] at h2
  refine ⟨fun e => by subst e; omega, (hs a ha c).2 (((hs a ha b).1 h1.2).trans ((hs b hb c).1 h2.2))⟩
/-- Dilworth's words, of what the program computes -/
theorem dilworth {n : Nat} {es : List (Int × Int)} {T : List Nat} (hE : EdgesIn n es) (hord : (orderF es n).length = n) (hn : n ≤ 64) (h : Grown1 false (fun _ => true) n es T) {B M : Nat} (hA : Alt n (abF T n) (joinF (abF T n) n n) B M [] none) :
    Dil n (abF T n) (chainsF n (joinF (abF T n) n n).nx (joinF (abF T n) n n).pv n) (apartF B M n) := by
  have hin : InN n es := hE
  have hab := abF_ok hin hn h
  have hR := ranked_of hE hord hn h
  exact dil_of (joinF_spec hn hab n (Nat.le_refl _)) hR (up_trans hin hn h hR) hab hA
end Go.Proofs.YtnjikhhegebkiaaDoor
