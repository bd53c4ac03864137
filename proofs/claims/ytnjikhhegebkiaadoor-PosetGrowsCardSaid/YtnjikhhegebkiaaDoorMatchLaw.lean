/-
  Plain law: growing keeps a pairing good; where it fails there is a closed set. Written by an AI agent.
-/
import Derived.Test.YtnjikhhegebkiaaDoorPair
namespace Go.Proofs.YtnjikhhegebkiaaDoor

/-- x reaches y, and is another one -/
def Up (Ab : List Nat) (x y : Nat) : Prop := (Ab.getD x 0).testBit y = true
def nxt (t : St) (x : Nat) : Int := t.nx.getD x 0
def bck (t : St) (y : Nat) : Int := t.pv.getD y 0
/-- the pairing joins each one with one at most, forth and back, where V is what it joins back -/
structure Good (n : Nat) (Ab : List Nat) (N V : Nat → Int) : Prop where
  n1 : ∀ x, x < n → N x = -1 ∨ ∃ y : Nat, N x = y ∧ y < n ∧ Up Ab x y
  v1 : ∀ y, y < n → V y = -1 ∨ ∃ x : Nat, V y = x ∧ x < n
  iff : ∀ x y, x < n → y < n → (N x = (y : Int) ↔ V y = (x : Int))
def era (V : Nat → Int) (i : Int) (y : Nat) : Int := if (y : Int) = i then -1 else V y
def Closed (n : Nat) (Ab : List Nat) (V : Nat → Int) (D : Nat → Prop) : Prop := ∀ y, y < n → D y → ∃ z : Nat, V y = z ∧ z < n ∧ ∀ y', Up Ab z y' → D y'
def seen (t : St) (y : Nat) : Prop := t.s.testBit y = true
/-- before x grows -/
structure Pre (n : Nat) (Ab : List Nat) (x : Nat) (t : St) : Prop where
  lt : x < n
  ok : StOk n t
  good : Good n Ab (nxt t) (bck t)
  here : nxt t x = -1 ∨ ∃ y : Nat, nxt t x = y ∧ seen t y
/-- behind it, where it grew -/
structure Yes (n : Nat) (Ab : List Nat) (x : Nat) (t t' : St) : Prop where
  good : Good n Ab (nxt t') (era (bck t') (nxt t x))
  mine : nxt t' x ≠ -1
  dom : ∀ a, a < n → a ≠ x → (nxt t a = -1 ↔ nxt t' a = -1)
  keepN : ∀ a, a < n → a ≠ x → (nxt t a = -1 ∨ ∃ y : Nat, nxt t a = y ∧ seen t y) → nxt t' a = nxt t a
  keepV : ∀ y, y < n → seen t y → bck t' y = bck t y
  out : ∀ D, Closed n Ab (bck t) D → (∃ y, Up Ab x y ∧ ¬ D y) ∧ ∀ y, y < n → D y → bck t' y = bck t y
/-- behind it, where it did not; what was asked: l -/
structure No (n : Nat) (Ab : List Nat) (l : Nat → Prop) (t t' : St) : Prop where
  nx : t'.nx = t.nx
  pv : t'.pv = t.pv
  all : ∀ y, l y → seen t' y
  new : ∀ y, seen t' y → ¬ seen t y → ∃ z : Nat, bck t y = z ∧ z < n ∧ ∀ y', Up Ab z y' → seen t' y'
theorem nxt_put {t : St} {n x : Nat} {y : Int} (h : StOk n t) (hx : x < n) (a : Nat) : nxt (t.put x y) a = if a = x then y else nxt t a := by
  unfold nxt St.put
  simp only
  by_cases e : a = x
  · subst e
    rw [if_pos rfl, List.getD_eq_getElem?_getD, List.getElem?_set_self (by rw [h.nx]; exact hx)]; rfl
  · rw [if_neg e, List.getD_eq_getElem?_getD, List.getElem?_set_ne (fun e2 => e e2.symm), ← List.getD_eq_getElem?_getD]
theorem bck_put {t : St} {n x y : Nat} (h : StOk n t) (hy : y < n) (b : Nat) : bck (t.put x (y : Int)) b = if b = y then (x : Int) else bck t b := by
  unfold bck St.put
  simp only [Int.toNat_natCast]
  by_cases e : b = y
  · subst e
    rw [if_pos rfl, List.getD_eq_getElem?_getD, List.getElem?_set_self (by rw [h.pv]; exact hy)]; rfl
  · rw [if_neg e, List.getD_eq_getElem?_getD, List.getElem?_set_ne (fun e2 => e e2.symm), ← List.getD_eq_getElem?_getD]
theorem seen_see {t : St} {y : Nat} (hy : y < 64) (i : Nat) : seen (t.see (y : Int)) i ↔ seen t i ∨ y = i := by
  unfold seen
  rw [see_bit t y hy]
  simp
/-- y is joined with x, where the ones before were good but for y's old one -/
theorem good_put {n : Nat} {Ab : List Nat} {x y : Nat} {t t2 : St} (hx : x < n) (hy : y < n) (hup : Up Ab x y) (h2 : StOk n t2) (hg : Good n Ab (nxt t2) (era (bck t2) (y : Int))) (hN : nxt t2 x = nxt t x) (hne : nxt t x ≠ (y : Int)) :
    Good n Ab (nxt (t2.put x (y : Int))) (era (bck (t2.put x (y : Int))) (nxt t x)) := by
  refine ⟨fun a ha => ?_, fun b hb => ?_, fun a b ha hb => ?_⟩
  · rw [nxt_put h2 hx]
    split
    · rename_i e; subst e; exact .inr ⟨y, rfl, hy, hup⟩
    · exact hg.n1 a ha
  · unfold era
    rw [bck_put h2 hy]
    split
    · exact .inl rfl
    · split
      · exact .inr ⟨x, rfl, hx⟩
      · rename_i e1 e2
        have := hg.v1 b hb
        unfold era at this
        rw [if_neg (by omega)] at this
        exact this
  · rw [nxt_put h2 hx]
    unfold era
    rw [bck_put h2 hy]
    have key := hg.iff a b ha hb
    unfold era at key
    by_cases ea : a = x
    · subst ea
      rw [if_pos rfl]
      by_cases eb : b = y
      · subst eb
        rw [if_neg (fun e => hne e.symm), if_pos rfl]
        simp
      · rw [if_neg (by omega) (c := (b : Int) = (y : Int))] at key
        constructor
        · intro e; exact absurd (by omega) eb
        · intro e
          by_cases e3 : (b : Int) = nxt t a
          · rw [if_pos e3] at e; omega
          · rw [if_neg e3, if_neg eb] at e
            have := key.2 e
            rw [hN] at this
            exact absurd this.symm e3
    · rw [if_neg ea]
      by_cases eb : b = y
      · subst eb
        rw [if_pos rfl] at key
        rw [if_neg (fun e => hne e.symm), if_pos rfl]
        constructor
        · intro e; have := key.1 e; omega
        · intro e; omega
      · rw [if_neg (by omega) (c := (b : Int) = (y : Int))] at key
        by_cases e3 : (b : Int) = nxt t x
        · rw [if_pos e3]
          constructor
          · intro e
            have h1 := key.1 e
            have h4 := hg.iff x b hx hb
            unfold era at h4
            rw [if_neg (by omega) (c := (b : Int) = (y : Int))] at h4
            have := h4.1 (by rw [hN]; exact e3.symm)
            omega
          · intro e; omega
        · rw [if_neg e3, if_neg eb]; exact key
theorem era_none {V : Nat → Int} : era V (-1) = V := by
  funext y
  unfold era
  rw [if_neg (by omega)]
theorem growL_spec {n : Nat} {Ab : List Nat} (hn : n ≤ 64) (hA : AbOk n Ab) {rec : Nat → St → Bool × St} (hok : ∀ x t, x < n → StOk n t → StOk n (rec x t).2 ∧ More t (rec x t).2)
    {f : Nat} (hr : ∀ x t, unseen t.s < f → Pre n Ab x t → ((rec x t).1 = true → Yes n Ab x t (rec x t).2) ∧ ((rec x t).1 = false → No n Ab (Up Ab x) t (rec x t).2)) {x : Nat} :
    ∀ (l : List Int) (t : St), (∀ y ∈ l, ∃ k : Nat, y = k ∧ k < n ∧ Up Ab x k) → unseen t.s ≤ f → Pre n Ab x t →
      ((growL rec x l t).1 = true → Yes n Ab x t (growL rec x l t).2) ∧ ((growL rec x l t).1 = false → No n Ab (fun y => (y : Int) ∈ l) t (growL rec x l t).2)
  | [], t, _, _, h => ⟨fun e => by simp [growL] at e, fun _ => ⟨rfl, rfl, fun y hy => by simp at hy, fun y h1 h2 => absurd h1 h2⟩⟩
  | y :: r, t, hl, hf, h => by
    obtain ⟨k, rfl, hk, hup⟩ := hl y (by simp)
    have hl2 : ∀ y ∈ r, ∃ k : Nat, y = k ∧ k < n ∧ Up Ab x k := fun y hy => hl y (by simp [hy])
    have hx := h.lt
    have hk64 : k < 64 := by omega
    unfold growL
    by_cases hs : setHas t.s (k : Int) = true
    · rw [if_pos hs]
      have hsk : seen t k := by unfold seen; rw [← setHas_nat t.s k hk64]; exact hs
      obtain ⟨h1, h2⟩ := growL_spec hn hA hok hr r t hl2 hf h
      refine ⟨h1, fun e => ?_⟩
      have h3 := h2 e
      refine ⟨h3.nx, h3.pv, fun y hy => ?_, h3.new⟩
      rcases List.mem_cons.1 hy with hy | hy
      · have hyk : y = k := by omega
        subst hyk
        obtain ⟨_, hm⟩ := growL_ok hok hx hn r t (fun y hy => by obtain ⟨k, a, b, _⟩ := hl2 y hy; exact ⟨k, a, b⟩) h.ok
        exact hm y hsk
      · exact h3.all y hy
    · rw [if_neg hs]
      have hsk : ¬ seen t k := by unfold seen; rw [← setHas_nat t.s k hk64]; exact hs
      have hse := @seen_see t k hk64
      have hok1 := h.ok.see (k : Int)
      have hN1 : ∀ a, nxt (t.see (k : Int)) a = nxt t a := fun _ => rfl
      have hV1 : ∀ b, bck (t.see (k : Int)) b = bck t b := fun _ => rfl
      have hgd1 : Good n Ab (nxt (t.see (k : Int))) (bck (t.see (k : Int))) := h.good
      have hcl1 : ∀ D, Closed n Ab (bck t) D → Closed n Ab (bck (t.see (k : Int))) D := fun _ h => h
      have hun1 : unseen (t.see (k : Int)).s < f := Nat.lt_of_lt_of_le (see_lt hk64 (by unfold seen at hsk; simpa using hsk)) hf
      have hbk : (t.see (k : Int)).back (k : Int) = bck t k := by unfold St.back bck St.see; simp
      have hnk : nxt t x ≠ (k : Int) := fun e => by
        rcases h.here with h0 | ⟨y, h0, h1⟩
        · omega
        · have : y = k := by omega
          subst this
          exact hsk h1
      generalize hg1 : t.see (k : Int) = t1 at *
      rw [hbk]
      by_cases hb : bck t k = -1
      · rw [if_pos hb]
        refine ⟨fun _ => ?_, fun e => by simp at e⟩
        have hera : era (bck t1) (k : Int) = bck t1 := by
          funext b
          unfold era
          split
          · rename_i e
            have : b = k := by omega
            subst this
            rw [hV1, hb]
          · rfl
        have hg := hgd1
        refine ⟨good_put hx hk hup hok1 (by rw [hera]; exact hg) (hN1 x) hnk, ?_, fun a ha hax => ?_, fun a ha hax _ => ?_, fun y hy hsy => ?_, fun D hD => ⟨⟨k, hup, fun hd => ?_⟩, fun y hy hd => ?_⟩⟩
        · rw [nxt_put hok1 hx, if_pos rfl]; omega
        · rw [nxt_put hok1 hx, if_neg hax, hN1]
        · rw [nxt_put hok1 hx, if_neg hax, hN1]
        · rw [bck_put hok1 hk, if_neg (fun (e : y = k) => hsk (by rw [← e]; exact hsy)), hV1]
        · obtain ⟨z, hz, _⟩ := hD k hk hd
          omega
        · rw [bck_put hok1 hk, if_neg (fun e => by
            subst e
            obtain ⟨z, hz, _⟩ := hD y hy hd
            omega), hV1]
      · rw [if_neg hb]
        obtain ⟨z, hz, hzn⟩ : ∃ z : Nat, bck t k = z ∧ z < n := by
          rcases h.good.v1 k hk with h0 | h0
          · exact absurd h0 hb
          · exact h0
        have hNz : nxt t z = (k : Int) := (h.good.iff z k hzn hk).2 hz
        have hzx : z ≠ x := fun e => by subst e; exact hnk hNz
        rw [hz, Int.toNat_natCast]
        have hpre : Pre n Ab z t1 := ⟨hzn, hok1, hgd1, .inr ⟨k, by rw [hN1]; exact hNz, (hse k).2 (.inr rfl)⟩⟩
        obtain ⟨r1, r2⟩ := hr z t1 hun1 hpre
        obtain ⟨hok2, hmo2⟩ := hok z t1 hzn hok1
        generalize rec z t1 = q at *
        by_cases hq : q.1 = true
        · rw [if_pos hq]
          refine ⟨fun _ => ?_, fun e => by simp at e⟩
          have hy := r1 hq
          have hN2x : nxt q.2 x = nxt t x := by
            rw [hy.keepN x hx (fun e => hzx e.symm) (by
              rw [hN1]
              rcases h.here with h0 | ⟨y, h0, h1⟩
              · exact .inl h0
              · exact .inr ⟨y, h0, (hse y).2 (.inl h1)⟩), hN1]
          have hgood := hy.good
          rw [hN1, hNz] at hgood
          refine ⟨good_put hx hk hup hok2 hgood hN2x hnk, ?_, fun a ha hax => ?_, fun a ha hax hc => ?_, fun y hy' hsy => ?_, fun D hD => ?_⟩
          · rw [nxt_put hok2 hx, if_pos rfl]; omega
          · rw [nxt_put hok2 hx, if_neg hax]
            by_cases haz : a = z
            · subst haz
              have := hy.mine
              constructor
              · intro e; omega
              · intro e; exact absurd e this
            · have := hy.dom a ha haz
              rw [hN1] at this
              exact this
          · have haz : a ≠ z := fun e => by
              subst e
              rcases hc with h0 | ⟨y, h0, h1⟩
              · omega
              · have : y = k := by omega
                subst this
                exact hsk h1
            rw [nxt_put hok2 hx, if_neg hax, hy.keepN a ha haz (by
              rw [hN1]
              rcases hc with h0 | ⟨y, h0, h1⟩
              · exact .inl h0
              · exact .inr ⟨y, h0, (hse y).2 (.inl h1)⟩), hN1]
          · rw [bck_put hok2 hk, if_neg (fun (e : y = k) => hsk (by rw [← e]; exact hsy)), hy.keepV y hy' ((hse y).2 (.inl hsy)), hV1]
          · obtain ⟨⟨y0, hu0, hd0⟩, hdk⟩ := hy.out D (hcl1 D hD)
            have hkD : ¬ D k := fun hd => by
              obtain ⟨z', hz', _, hcl⟩ := hD k hk hd
              have : z' = z := by omega
              subst this
              exact hd0 (hcl y0 hu0)
            refine ⟨⟨k, hup, hkD⟩, fun y hy' hd => ?_⟩
            rw [bck_put hok2 hk, if_neg (fun (e : y = k) => hkD (by rw [← e]; exact hd)), hdk y hy' hd, hV1]
        · rw [if_neg hq]
          have hno := r2 (by simpa using hq)
          have hN2 : ∀ a, nxt q.2 a = nxt t a := fun a => by unfold nxt; rw [hno.nx]; exact hN1 a
          have hV2 : ∀ b, bck q.2 b = bck t b := fun b => by unfold bck; rw [hno.pv]; exact hV1 b
          have hmore : ∀ y, seen t y → seen q.2 y := fun y hy => hmo2 y ((hse y).2 (.inl hy))
          have hpre2 : Pre n Ab x q.2 := ⟨hx, hok2, by
            rw [show nxt q.2 = nxt t from funext hN2, show bck q.2 = bck t from funext hV2]; exact h.good, by
            rw [hN2]
            rcases h.here with h0 | ⟨y, h0, h1⟩
            · exact .inl h0
            · exact .inr ⟨y, h0, hmore y h1⟩⟩
          obtain ⟨h1, h2⟩ := growL_spec hn hA hok hr r q.2 hl2 (Nat.le_trans (unseen_le fun i _ h => hmo2 i h) (Nat.le_of_lt hun1)) hpre2
          obtain ⟨_, hm3⟩ := growL_ok hok hx hn r q.2 (fun y hy => by obtain ⟨k, a, b, _⟩ := hl2 y hy; exact ⟨k, a, b⟩) hok2
          refine ⟨fun e => ?_, fun e => ?_⟩
          · have hy := h1 e
            refine ⟨by rw [← hN2]; exact hy.good, hy.mine, fun a ha hax => by rw [← hN2]; exact hy.dom a ha hax, fun a ha hax hc => ?_, fun y hy' hsy => by rw [hy.keepV y hy' (hmore y hsy), hV2], fun D hD => ?_⟩
            · rw [hy.keepN a ha hax (by
                rw [hN2]
                rcases hc with h0 | ⟨y, h0, h1⟩
                · exact .inl h0
                · exact .inr ⟨y, h0, hmore y h1⟩), hN2]
            · obtain ⟨a1, a2⟩ := hy.out D (by rw [show bck q.2 = bck t from funext hV2]; exact hD)
              exact ⟨a1, fun y hy' hd => by rw [a2 y hy' hd, hV2]⟩
          · have h3 := h2 e
            have hpv : t1.pv = t.pv := by rw [← hg1]; rfl
            have hnx : t1.nx = t.nx := by rw [← hg1]; rfl
            refine ⟨h3.nx.trans (hno.nx.trans hnx), h3.pv.trans (hno.pv.trans hpv), fun y hy => ?_, fun y hy1 hy2 => ?_⟩
            · rcases List.mem_cons.1 hy with hy | hy
              · have hyk : y = k := by omega
                subst hyk
                exact hm3 y (hmo2 y ((hse y).2 (.inr rfl)))
              · exact h3.all y hy
            · by_cases hyq : seen q.2 y
              · by_cases hyk : y = k
                · subst hyk
                  exact ⟨z, hz, hzn, fun y' hu => hm3 y' (hno.all y' hu)⟩
                · obtain ⟨z', a1, a2, a3⟩ := hno.new y hyq (fun h0 => ((hse y).1 h0).elim hy2 (fun e => hyk e.symm))
                  exact ⟨z', by rw [← hV1]; exact a1, a2, fun y' hu => hm3 y' (a3 y' hu)⟩
              · obtain ⟨z', a1, a2, a3⟩ := h3.new y hy1 hyq
                exact ⟨z', by rw [← hV2]; exact a1, a2, a3⟩
theorem growF_spec {n : Nat} {Ab : List Nat} (hn : n ≤ 64) (hA : AbOk n Ab) : ∀ (f x : Nat) (t : St), unseen t.s < f → Pre n Ab x t → ((growF Ab f x t).1 = true → Yes n Ab x t (growF Ab f x t).2) ∧ ((growF Ab f x t).1 = false → No n Ab (Up Ab x) t (growF Ab f x t).2) := by
  intro f
  induction f with
  | zero => intro x t h; exact absurd h (Nat.not_lt_zero _)
  | succ f ih =>
    intro x t hf h
    have hl : ∀ y ∈ bitsL (Ab.getD x 0) 64, ∃ k : Nat, y = k ∧ k < n ∧ Up Ab x k := fun y hy => by
      obtain ⟨k, rfl, _, hb⟩ := mem_bitsL.1 hy
      exact ⟨k, rfl, hA.bit x k hb, hb⟩
    obtain ⟨h1, h2⟩ := growL_spec hn hA (fun x t hx h => growF_ok hA hn f x t hx h) (f := f) (fun x t hf h => ih x t hf h) _ t hl (by omega) h
    refine ⟨h1, fun e => ?_⟩
    have h3 := h2 e
    exact ⟨h3.nx, h3.pv, fun y hy => h3.all y (mem_bitsL.2 ⟨y, rfl, by have := hA.bit x y hy; omega, hy⟩), h3.new⟩
/-- behind k vertices: good, those that come are joined with none, and a closed set that all reach that could not be joined -/
structure Joined (n : Nat) (Ab : List Nat) (k : Nat) (t : St) : Prop where
  good : Good n Ab (nxt t) (bck t)
  rest : ∀ a, a < n → k ≤ a → nxt t a = -1
  free : ∃ D, Closed n Ab (bck t) D ∧ ∀ x, x < k → x < n → nxt t x = -1 → ∀ y, Up Ab x y → D y
theorem joinF_spec {n : Nat} {Ab : List Nat} (hn : n ≤ 64) (hA : AbOk n Ab) : ∀ k, k ≤ n → Joined n Ab k (joinF Ab n k)
  | 0, _ => by
    have h1 : ∀ x, x < n → nxt (joinF Ab n 0) x = -1 := fun x hx => by
      show (List.replicate n (-1 : Int)).getD x 0 = -1
      rw [List.getD_eq_getElem?_getD, List.getElem?_replicate, if_pos hx]; rfl
    have h2 : ∀ x, x < n → bck (joinF Ab n 0) x = -1 := fun x hx => by
      show (List.replicate n (-1 : Int)).getD x 0 = -1
      rw [List.getD_eq_getElem?_getD, List.getElem?_replicate, if_pos hx]; rfl
    exact ⟨⟨fun x hx => .inl (h1 x hx), fun y hy => .inl (h2 y hy), fun x y hx hy => by rw [h1 x hx, h2 y hy]; constructor <;> intro e <;> omega⟩, fun a ha _ => h1 a ha,
      fun _ => False, fun _ _ h => h.elim, fun x hx => absurd hx (Nat.not_lt_zero _)⟩
  | k + 1, hk => by
    have h := joinF_spec hn hA k (by omega)
    have hok := joinF_ok hA hn k (by omega)
    have hpre : Pre n Ab k ⟨(joinF Ab n k).nx, (joinF Ab n k).pv, 0⟩ := ⟨by omega, hok, h.good, .inl (h.rest k (by omega) (Nat.le_refl _))⟩
    obtain ⟨h1, h2⟩ := growF_spec hn hA 65 k _ (show unseen 0 < 65 by decide) hpre
    obtain ⟨D, hD, hf⟩ := h.free
    have hN : ∀ a, nxt ⟨(joinF Ab n k).nx, (joinF Ab n k).pv, 0⟩ a = nxt (joinF Ab n k) a := fun _ => rfl
    have hV : ∀ a, bck ⟨(joinF Ab n k).nx, (joinF Ab n k).pv, 0⟩ a = bck (joinF Ab n k) a := fun _ => rfl
    have hS : ∀ y, ¬ seen ⟨(joinF Ab n k).nx, (joinF Ab n k).pv, 0⟩ y := fun y hy => by simp [seen] at hy
    show Joined n Ab (k + 1) (growF Ab 65 k ⟨(joinF Ab n k).nx, (joinF Ab n k).pv, 0⟩).2
    have hgk := h.rest k (by omega) (Nat.le_refl _)
    generalize growF Ab 65 k ⟨(joinF Ab n k).nx, (joinF Ab n k).pv, 0⟩ = q at *
    by_cases hq : q.1 = true
    · have hy := h1 hq
      have hg := hy.good
      rw [hN, hgk, era_none] at hg
      refine ⟨hg, fun a ha hka => ?_, D, fun y hy' hd => ?_, fun x hx hxn hx1 => ?_⟩
      · exact (hy.dom a ha (by omega)).1 (h.rest a ha (by omega))
      · obtain ⟨z, a1, a2⟩ := hD y hy' hd
        exact ⟨z, by rw [(hy.out D hD).2 y hy' hd]; exact a1, a2⟩
      · by_cases hxk : x = k
        · subst hxk; exact absurd hx1 hy.mine
        · exact hf x (by omega) hxn ((hy.dom x hxn hxk).2 hx1)
    · have hno := h2 (by simpa using hq)
      have hN2 : ∀ a, nxt q.2 a = nxt (joinF Ab n k) a := fun a => by unfold nxt; rw [hno.nx]
      have hV2 : ∀ a, bck q.2 a = bck (joinF Ab n k) a := fun a => by unfold bck; rw [hno.pv]
      refine ⟨by rw [show nxt q.2 = _ from funext hN2, show bck q.2 = _ from funext hV2]; exact h.good, fun a ha hka => by rw [hN2]; exact h.rest a ha (by omega), fun y => D y ∨ seen q.2 y, fun y hy' hd => ?_, fun x hx hxn hx1 y hu => ?_⟩
      · rcases hd with hd | hd
        · obtain ⟨z, a1, a2, a3⟩ := hD y hy' hd
          exact ⟨z, by rw [hV2]; exact a1, a2, fun y' hu => .inl (a3 y' hu)⟩
        · obtain ⟨z, a1, a2, a3⟩ := hno.new y hd (hS y)
          exact ⟨z, by rw [hV2]; exact a1, a2, fun y' hu => .inr (a3 y' hu)⟩
      · rw [hN2] at hx1
        by_cases hxk : x = k
        · subst hxk; exact .inr (hno.all y hu)
        · exact .inl (hf x (by omega) hxn hx1 y hu)
end Go.Proofs.YtnjikhhegebkiaaDoor
