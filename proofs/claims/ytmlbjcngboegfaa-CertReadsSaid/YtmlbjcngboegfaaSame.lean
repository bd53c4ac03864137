/-
  The reference's Same: whether two certificates are one. Written by an AI agent.
-/
import Derived.Test.YtmlbjcngboegfaaSpeaks
namespace Go.Proofs.Ytmlbjcngboegfaa
open Go.RowKit

def QuietB (p : Bool) (w : World) (e : Ending) (w' : World) : Prop := e = .returned (.bool p) ∧ ∃ m, w' = w.drewN m
theorem eq_of_prefix {α : Type} {xs ys : List α} (hl : xs.length = ys.length) (h : ∀ j (h1 : j < xs.length) (h2 : j < ys.length), xs[j] = ys[j]) : xs = ys := List.ext_getElem hl fun j h1 h2 => h j h1 h2

set_option maxHeartbeats 1000000 in
theorem ints_any (A B : Option Addr) (c d : Nat) (xs ys : List Int) (w : World) {B1 B2 : Nat} (ha : Cells w B1 A (intCells xs)) (hb : Cells w B2 B (intCells ys)) (h1 : xs.length ≤ 1000000) :
    Calls Try.prog 24 #[.slice A xs.length c, .slice B ys.length d] w (QuietB (decide (xs = ys)) w) := by
  go_enter Try.func24, Try.ntmps24
  by_cases hl : xs.length = ys.length
  · have hl' : ((xs.length : Int) != (ys.length : Int)) = false := by rw [hl]; simp
    have Hl := Lib.hid hl
    have Ha := Lib.hid ha
    have Hb := Lib.hid hb
    clear hl ha hb
    go_wp2_with fail
    go_loopg [5] xs.length (fun k s2 wr => ∃ i m : Nat, s2 = .int .i64 i ∧ i ≤ xs.length ∧ k = xs.length - i ∧ wr = w.drewN m ∧ ∀ j (h1 : j < xs.length) (h2 : j < ys.length), j < i → xs[j] = ys[j])
    case atStart => exact ⟨0, 0, rfl, by omega, rfl, rfl, fun j _ _ hj => absurd hj (by omega)⟩
    case round =>
      obtain ⟨i, m, rfl, hi, hk, rfl, hp⟩ := hrel
      have Hk := Lib.hid hk
      have Hp := Lib.hid hp
      clear hk hp hl'
      by_cases hlt : i < xs.length
      · have hlt' : (i : Int) < xs.length := by omega
        have hlt2 : i < ys.length := by have := Hl.out; omega
        have hlt2' : (i : Int) < ys.length := by omega
        obtain ⟨b1, o1, rfl, _, c1⟩ := Ha.out.ints (by omega)
        obtain ⟨b2, o2, rfl, _, c2⟩ := Hb.out.ints (by omega)
        have e1 := c1 i hlt
        have e2 := c2 i hlt2
        clear c1 c2
        have HS := Lib.hid (fun (h : xs[i] = ys[i]) (j : Nat) (h1 : j < xs.length) (h2 : j < ys.length) (hji : j < i + 1) => (by
          by_cases e : j = i
          · subst e; exact h
          · exact Hp.out j h1 h2 (by omega) : xs[j] = ys[j]))
        have HN := Lib.hid (fun (h : xs[i] ≠ ys[i]) => (decide_eq_false (fun e => h (by simp [e])) : decide (xs = ys) = false))
        generalize xs[i] = p at *
        generalize ys[i] = q at *
        by_cases he : p = q
        · have he' : (p != q) = false := by rw [he]; simp
          have HS2 := Lib.hid (HS.out he)
          clear he
          go_wp2_with fail
          go_quiet (fail)
          go_wp2_with fail
          go_roundg (xs.length - (i + 1))
          case measure => rw [Hk.out]; omega
          case rel => exact ⟨i + 1, m + nq, by go_num, by omega, rfl, by simp, HS2.out⟩
        · have he' : (p != q) = true := by simpa using he
          have HN2 := Lib.hid (HN.out he)
          clear he
          go_wp2_with fail
          go_quiet (fail)
          go_wp2_with fail
          go_ret
          exact ⟨ret_bool HN2.out.symm, m + nq, by simp⟩
      · have hie : i = xs.length := by omega
        subst hie
        have HE := Lib.hid (show decide (xs = ys) = true from decide_eq_true (eq_of_prefix Hl.out fun j h1 h2 => Hp.out j h1 h2 h1))
        go_wp2_with fail
        go_ret
        exact ⟨ret_bool HE.out.symm, m, rfl⟩
  · have hl' : ((xs.length : Int) != (ys.length : Int)) = true := by
      rw [bne_iff_ne]; omega
    have HE := Lib.hid (show decide (xs = ys) = false from decide_eq_false fun e => hl (by rw [e]))
    clear hl
    go_wp2_with fail
    go_ret
    exact ⟨ret_bool HE.out.symm, 0, rfl⟩

theorem quiet_b {P : Program} {f : FuncId} {args : Array Value} {w : World} {n : Nat} {p : Bool} (h : Calls P f args (w.drewN n) (QuietB p (w.drewN n))) : Calls P f args (w.drewN n) fun e w'' => e = .returned (.bool p) ∧ ∃ m, w'' = w.drewN m :=
  h.mono fun _ _ ⟨he, m, hm⟩ => ⟨he, n + m, by rw [hm, World.drewN_drewN]⟩
theorem TblAt.drewN {β : Type} {cl : List β → List Value} {w : World} {B : Nat} {A : Option Addr} {rs : List (List β)} (h : TblAt cl w B A rs) (m : Nat) : TblAt cl (w.drewN m) B A rs := h

set_option maxHeartbeats 1000000 in
theorem rows_any (A B : Option Addr) (c d : Nat) (xs ys : List (List Int)) (w : World) {B1 B2 : Nat} (ha : TblAt intCells w B1 A xs) (hb : TblAt intCells w B2 B ys) (h1 : xs.length ≤ 1000000) (h2 : ∀ l ∈ xs, l.length ≤ 1000000) :
    Calls Try.prog 25 #[.slice A xs.length c, .slice B ys.length d] w (QuietB (decide (xs = ys)) w) := by
  go_enter Try.func25, Try.ntmps25
  by_cases hl : xs.length = ys.length
  · have hl' : ((xs.length : Int) != (ys.length : Int)) = false := by rw [hl]; simp
    have Hl := Lib.hid hl
    have Ha := Lib.hid ha
    have Hb := Lib.hid hb
    have H2 := Lib.hid h2
    clear hl ha hb h2
    go_wp2_with fail
    go_loopg [5] xs.length (fun k s2 wr => ∃ i m : Nat, s2 = .int .i64 i ∧ i ≤ xs.length ∧ k = xs.length - i ∧ wr = w.drewN m ∧ ∀ j (h1 : j < xs.length) (h2 : j < ys.length), j < i → xs[j] = ys[j])
    case atStart => exact ⟨0, 0, rfl, by omega, rfl, rfl, fun j _ _ hj => absurd hj (by omega)⟩
    case round =>
      obtain ⟨i, m, rfl, hi, hk, hwr, hp⟩ := hrel
      have Hk := Lib.hid hk
      have Hp := Lib.hid hp
      have Hwr := Lib.hid hwr
      clear hk hp hl'
      by_cases hlt : i < xs.length
      · have hlt' : (i : Int) < xs.length := by omega
        have hlt2 : i < ys.length := by have := Hl.out; omega
        have hlt2' : (i : Int) < ys.length := by omega
        obtain ⟨b1, o1, rfl, _, c1⟩ := Ha.out (by omega)
        obtain ⟨b2, o2, rfl, _, c2⟩ := Hb.out (by omega)
        obtain ⟨A1, d1, e1, f1⟩ := c1 i hlt
        obtain ⟨A2, d2, e2, f2⟩ := c2 i hlt2
        have e1 : wr.cell? ⟨b1, o1 + i, none⟩ = some (.slice A1 xs[i].length d1) := by rw [hwr]; exact e1
        have e2 : wr.cell? ⟨b2, o2 + i, none⟩ = some (.slice A2 ys[i].length d2) := by rw [hwr]; exact e2
        have HR := Lib.hid (fun n => ints_any A1 A2 d1 d2 xs[i] ys[i] (wr.drewN n) (B1 := B1) (B2 := B2) (by rw [hwr]; exact f1) (by rw [hwr]; exact f2) (H2.out _ (List.getElem_mem hlt)))
        clear c1 c2 f1 f2 hwr
        have HS := Lib.hid (fun (h : xs[i] = ys[i]) (j : Nat) (h1 : j < xs.length) (h2 : j < ys.length) (hji : j < i + 1) => (by
          by_cases e : j = i
          · subst e; exact h
          · exact Hp.out j h1 h2 (by omega) : xs[j] = ys[j]))
        have HN := Lib.hid (fun (h : xs[i] ≠ ys[i]) => (decide_eq_false (fun e => h (by simp [e])) : decide (xs = ys) = false))
        generalize xs[i] = p at *
        generalize ys[i] = q at *
        by_cases he : p = q
        · have he' : decide (p = q) = true := decide_eq_true he
          rw [he'] at HR
          have HS2 := Lib.hid (HS.out he)
          clear he he'
          go_wp2_with fail
          go_quiet ((go_at_call 24; exact quiet_b (HR.out _)))
          go_wp2_with fail
          go_roundg (xs.length - (i + 1))
          case measure => rw [Hk.out]; omega
          case rel => exact ⟨i + 1, m + nq, by go_num, by omega, rfl, by rw [Hwr.out]; simp, HS2.out⟩
        · have he' : decide (p = q) = false := decide_eq_false he
          rw [he'] at HR
          have HN2 := Lib.hid (HN.out he)
          clear he he'
          go_wp2_with fail
          go_quiet ((go_at_call 24; exact quiet_b (HR.out _)))
          go_wp2_with fail
          go_ret
          exact ⟨ret_bool HN2.out.symm, m + nq, by rw [Hwr.out]; simp⟩
      · have hie : i = xs.length := by omega
        subst hie
        have HE := Lib.hid (show decide (xs = ys) = true from decide_eq_true (eq_of_prefix Hl.out fun j h1 h2 => Hp.out j h1 h2 h1))
        clear hwr
        go_wp2_with fail
        go_ret
        exact ⟨ret_bool HE.out.symm, m, Hwr.out⟩
  · have hl' : ((xs.length : Int) != (ys.length : Int)) = true := by
      rw [bne_iff_ne]; omega
    have HE := Lib.hid (show decide (xs = ys) = false from decide_eq_false fun e => hl (by rw [e]))
    clear hl
    go_wp2_with fail
    go_ret
    exact ⟨ret_bool HE.out.symm, 0, rfl⟩

theorem pt_guard (op : BinOp) (x y : Operand) (xs ys : Array Value) (w : World) : (eqGuard op 85 x y (.agg xs) (.agg ys)).run Try.prog w = .ok () w := run_eqGuard_agg w op _ x y xs ys (by kernel_rfl)
theorem pt_neq (p q : Int × Int) (w : World) : (binOp .neq 85 (.agg #[.int .i64 p.1, .int .i64 p.2]) (.agg #[.int .i64 q.1, .int .i64 q.2])).run Try.prog w = .ok (.bool (!(decide (p = q)))) w := by
  have hu := Try.underlying85
  have hf : Try.prog.fieldsOf 85 = #[{ name := "X", type := 3, offset := 0, embedded := false, tag := "", pkgPath := "", byteOffset := 0 }, { name := "Y", type := 3, offset := 1, embedded := false, tag := "", pkgPath := "", byteOffset := 8 }] := by
    unfold Program.fieldsOf
    rw [hu]
  have ha : ∀ w, (isAgg 3).run Try.prog w = .ok false w := fun w => by kernel_rfl
  have hz : ∀ w, (sizeOf 3).run Try.prog w = .ok 1 w := fun w => by kernel_rfl
  rw [run_neq_struct, run_equalIn_agg w 9999 _ _ _ (by rw [hf]; exact hu) (by kernel_rfl), hf]
  simp [Op.eqFields, part, ha, hz, run_equalIn_int _ 9998 _ _ _ _ _ Try.underlying3]
  obtain ⟨p1, p2⟩ := p
  obtain ⟨q1, q2⟩ := q
  by_cases h1 : p1 = q1 <;> by_cases h2 : p2 = q2 <;> simp [h1, h2]

set_option maxHeartbeats 1000000 in
theorem spots_any (A B : Option Addr) (c d : Nat) (xs ys : List (Int × Int)) (w : World) {B1 B2 : Nat} (ha : Cells w B1 A (edgeCells xs)) (hb : Cells w B2 B (edgeCells ys)) (h1 : xs.length ≤ 1000000) :
    Calls Try.prog 26 #[.slice A xs.length c, .slice B ys.length d] w (QuietB (decide (xs = ys)) w) := by
  go_enter Try.func26, Try.ntmps26
  by_cases hl : xs.length = ys.length
  · have hl' : ((xs.length : Int) != (ys.length : Int)) = false := by rw [hl]; simp
    have Hl := Lib.hid hl
    have Ha := Lib.hid ha
    have Hb := Lib.hid hb
    clear hl ha hb
    go_wp2_with fail
    go_loopg [5] xs.length (fun k s2 wr => ∃ i m : Nat, s2 = .int .i64 i ∧ i ≤ xs.length ∧ k = xs.length - i ∧ wr = w.drewN m ∧ ∀ j (h1 : j < xs.length) (h2 : j < ys.length), j < i → xs[j] = ys[j])
    case atStart => exact ⟨0, 0, rfl, by omega, rfl, rfl, fun j _ _ hj => absurd hj (by omega)⟩
    case round =>
      obtain ⟨i, m, rfl, hi, hk, hwr, hp⟩ := hrel
      have Hk := Lib.hid hk
      have Hp := Lib.hid hp
      have Hwr := Lib.hid hwr
      clear hk hp hl'
      by_cases hlt : i < xs.length
      · have hlt' : (i : Int) < xs.length := by omega
        have hlt2 : i < ys.length := by have := Hl.out; omega
        have hlt2' : (i : Int) < ys.length := by omega
        obtain ⟨b1, o1, rfl, _, c1⟩ := Ha.out.edges (by omega)
        obtain ⟨b2, o2, rfl, _, c2⟩ := Hb.out.edges (by omega)
        obtain ⟨e1, f1⟩ := c1 i hlt
        obtain ⟨e2, f2⟩ := c2 i hlt2
        have e1 : wr.cell? ⟨b1, o1 + i * 2, none⟩ = some (.int .i64 xs[i].1) := by rw [hwr]; exact e1
        have f1 : wr.cell? ⟨b1, o1 + i * 2 + 1, none⟩ = some (.int .i64 xs[i].2) := by rw [hwr]; exact f1
        have e2 : wr.cell? ⟨b2, o2 + i * 2, none⟩ = some (.int .i64 ys[i].1) := by rw [hwr]; exact e2
        have f2 : wr.cell? ⟨b2, o2 + i * 2 + 1, none⟩ = some (.int .i64 ys[i].2) := by rw [hwr]; exact f2
        clear c1 c2 hwr
        have HS := Lib.hid (fun (h : xs[i] = ys[i]) (j : Nat) (h1 : j < xs.length) (h2 : j < ys.length) (hji : j < i + 1) => (by
          by_cases e : j = i
          · subst e; exact h
          · exact Hp.out j h1 h2 (by omega) : xs[j] = ys[j]))
        have HN := Lib.hid (fun (h : xs[i] ≠ ys[i]) => (decide_eq_false (fun e => h (by simp [e])) : decide (xs = ys) = false))
        generalize xs[i] = p at *
        generalize ys[i] = q at *
        obtain ⟨p1, p2⟩ := p
        obtain ⟨q1, q2⟩ := q
        simp only at e1 f1 e2 f2
        have hg : ∀ x y wx, (eqGuard .neq 85 x y (.agg #[.int .i64 p1, .int .i64 p2]) (.agg #[.int .i64 q1, .int .i64 q2])).run Try.prog wx = .ok () wx := fun x y wx => pt_guard _ x y _ _ wx
        by_cases he : (p1, p2) = (q1, q2)
        · have hn : ∀ wx, (binOp .neq 85 (.agg #[.int .i64 p1, .int .i64 p2]) (.agg #[.int .i64 q1, .int .i64 q2])).run Try.prog wx = .ok (.bool false) wx := fun wx => by
            have := pt_neq (p1, p2) (q1, q2) wx
            rw [decide_eq_true he] at this
            exact this
          have HS2 := Lib.hid (HS.out he)
          clear he
          go_wp2_with fail
          go_quiet (fail)
          go_wp2_with fail
          go_roundg (xs.length - (i + 1))
          case measure => rw [Hk.out]; omega
          case rel => exact ⟨i + 1, m + nq, by go_num, by omega, rfl, by rw [Hwr.out]; simp, HS2.out⟩
        · have hn : ∀ wx, (binOp .neq 85 (.agg #[.int .i64 p1, .int .i64 p2]) (.agg #[.int .i64 q1, .int .i64 q2])).run Try.prog wx = .ok (.bool true) wx := fun wx => by
            have := pt_neq (p1, p2) (q1, q2) wx
            rw [decide_eq_false he] at this
            exact this
          have HN2 := Lib.hid (HN.out he)
          clear he
          go_wp2_with fail
          go_quiet (fail)
          go_wp2_with fail
          go_ret
          exact ⟨ret_bool HN2.out.symm, m + nq, by rw [Hwr.out]; simp⟩
      · have hie : i = xs.length := by omega
        subst hie
        have HE := Lib.hid (show decide (xs = ys) = true from decide_eq_true (eq_of_prefix Hl.out fun j h1 h2 => Hp.out j h1 h2 h1))
        clear hwr
        go_wp2_with fail
        go_ret
        exact ⟨ret_bool HE.out.symm, m, Hwr.out⟩
  · have hl' : ((xs.length : Int) != (ys.length : Int)) = true := by
      rw [bne_iff_ne]; omega
    have HE := Lib.hid (show decide (xs = ys) = false from decide_eq_false fun e => hl (by rw [e]))
    clear hl
    go_wp2_with fail
    go_ret
    exact ⟨ret_bool HE.out.symm, 0, rfl⟩

instance : DecidableEq Crt := fun a b => decidable_of_iff (a.k = b.k ∧ a.ord = b.ord ∧ a.outs = b.outs ∧ a.turn = b.turn ∧ a.outer = b.outer ∧ a.pts = b.pts ∧ a.lines = b.lines ∧ a.b0 = b.b0 ∧ a.b1 = b.b1 ∧ a.b2 = b.b2 ∧ a.b3 = b.b3 ∧ a.edges = b.edges)
  ⟨fun ⟨h0, h1, h2, h3, h4, h5, h6, h7, h8, h9, h10, h11⟩ => Crt.ext' h0 h1 h2 h3 h4 h5 h6 h7 h8 h9 h10 h11, fun h => by subst h; exact ⟨rfl, rfl, rfl, rfl, rfl, rfl, rfl, rfl, rfl, rfl, rfl, rfl⟩⟩
end Go.Proofs.Ytmlbjcngboegfaa
