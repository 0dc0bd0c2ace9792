/-
  Layer 12: where a name is, and where there is room.
-/
import Derived.Test.YtmegbgmgpogfoaaPfDirR4
namespace Go.Sy
open Go.Proofs Go.Proofs.Ytmegbgmgpogfoaa Num

theorem callA_objT {E : FnA} {md : FuncId → Md} {f : FuncId} (h : md f = .objT) {bx bx' : Bx} {args : List AV} {r : AV} (hr : E f args bx = some (r, bx')) (hl : bx.length ≤ bx'.length) :
    callA E md bx f args = some (r.keep (· < bx.length), (bx'.take bx.length).map fun l => l.map (AV.keep (· < bx.length))) := by
  unfold callA
  simp only [h, hr, Option.bind_some, hl, if_true]
theorem callA_objR {E : FnA} {md : FuncId → Md} {f : FuncId} (h : md f = .objR) {bx bx' : Bx} {args : List AV} {r : AV} (hr : E f args bx = some (r, bx')) (hl : bx.length ≤ bx'.length) (he : eqBx ((bx'.take bx.length).map fun l => l.map (AV.keep (· < bx.length))) bx = true) :
    callA E md bx f args = some (r.keep (· < bx.length), bx) := by
  unfold callA
  simp only [h, hr, Option.bind_some, hl, he, and_self, if_true]
theorem eqCs_u8 (b : List UInt8) : eqCs (u8l b) (u8l b) = true := by
  induction b with
  | nil => rfl
  | cons x b ih =>
    show (eqC (u8 x) (u8 x) && eqCs (u8l b) (u8l b)) = true
    rw [ih]
    simp [eqC, eqD, eqV]
theorem eqCs_ent (n : Int) (s : ByteArray) : eqCs (ent n s) (ent n s) = true := by
  simp [ent, eqCs, eqC, eqD, eqV]
theorem eqCs_str (s : ByteArray) : eqCs [.v (.string s)] [.v (.string s)] = true := by
  simp [eqCs, eqC, eqD, eqV]
/-- the first slot of which it holds -/
def fnd (q : Nat → Bool) : Int := if q 0 then 0 else if q 1 then 1 else if q 2 then 2 else if q 3 then 3 else -1
theorem fnd_at {q : Nat → Bool} {i : Nat} (h : ∀ j, j < i → q j = false) (hi : i < 4) (hq : q i = true) : fnd q = i := by
  unfold fnd
  have h0 := h 0
  have h1 := h 1
  have h2 := h 2
  match i, hi with
  | 0, _ => rw [if_pos hq]; rfl
  | 1, _ => rw [h0 (by omega), if_neg (by simp), if_pos hq]; rfl
  | 2, _ => rw [h0 (by omega), h1 (by omega), if_neg (by simp), if_neg (by simp), if_pos hq]; rfl
  | 3, _ => rw [h0 (by omega), h1 (by omega), h2 (by omega), if_neg (by simp), if_neg (by simp), if_neg (by simp), if_pos hq]; rfl
theorem fnd_no {q : Nat → Bool} (h : ∀ j, j < 4 → q j = false) : fnd q = -1 := by
  unfold fnd
  rw [h 0 (by omega), h 1 (by omega), h 2 (by omega), h 3 (by omega)]
  rfl
/-- is it that name's slot? -/
def isN (p : List UInt8) (nm : ByteArray) (j : Nat) : Bool := ((rdE (slB p j)).2.2 == 1) && ((rdE (slB p j)).2.1.toList == nm.toList)
def isR (p : List UInt8) (j : Nat) : Bool := (rdE (slB p j)).2.2 == 0
theorem eq_s (s t : ByteArray) : binA Try.prog .eql 9 (.v (.string s)) (.v (.string t)) = some (.v (.bool (s.toList == t.toList))) := by kernel_rfl
theorem find1_raw (m : Nat) (p : List UInt8) (nm : ByteArray) (n : Int) (s : ByteArray) (st : Int) : evFn cx0 ext0 (m + 1) 33 [.agg (ent n s), .v (.int .i64 st), .bp 1 0] [u8l p, [.v (.string nm)], u8l p, ent n s] = some (.v (.bool ((st == 1) && (s.toList == nm.toList))), [u8l p, [.v (.string nm)], u8l p, ent n s, ent n s]) := by
  have fa : fieldAddrA Try.prog 23 (.bp 4 0) 1 = some (.bp 4 1) := by kernel_rfl
  have l1 : loadA Try.prog 9 [u8l p, [.v (.string nm)], u8l p, ent n s, ent n s] (.bp 4 1) = some (.v (.string s)) := by kernel_rfl
  have l2 : loadA Try.prog 9 [u8l p, [.v (.string nm)], u8l p, ent n s, ent n s] (.bp 1 0) = some (.v (.string nm)) := by kernel_rfl
  have e := eq_s s nm
  rw [E_dirent_Find_1]
  refine ends_fin (P := Try.prog) ?_
  unfold F_dirent_Find_1
  cases h : (st == 1)
  · skip
    have stq := (And.intro (box_e) (h))
    repeat first
      | ((with_reducible apply ends_bind); case h => first | (simp only [stp, stq]; first | done | rfl) | rfl)
      | ((with_reducible apply ends_t); case h => first | rfl | (simp only [stp, stq]; done))
      | ((with_reducible apply ends_f); case h => first | rfl | (simp only [stp, stq]; done))
    exact ends_some ⟨.inl rfl, _, rfl, rfl⟩
  · skip
    have stq := (And.intro (box_e) (And.intro (h) (And.intro (fa) (And.intro (l1) (And.intro (l2) (e))))))
    repeat first
      | ((with_reducible apply ends_bind); case h => first | (simp only [stp, stq]; first | done | rfl) | rfl)
      | ((with_reducible apply ends_t); case h => first | rfl | (simp only [stp, stq]; done))
      | ((with_reducible apply ends_f); case h => first | rfl | (simp only [stp, stq]; done))
    exact ends_some ⟨.inl rfl, _, rfl, by cases (s.toList == nm.toList) <;> rfl⟩
theorem firstF (m : Nat) (hm : 70 ≤ m) (p : List UInt8) (hp : p.length = 54) (nm : ByteArray) : ∃ r, evFn cx0 ext0 (m + 1) 32 [.agg (u8l p), .fn 33 [] [.bp 1 0]] [u8l p, [.v (.string nm)]] = some (.v (.int .i64 (fnd (isN p nm))), [u8l p, [.v (.string nm)]] ++ r) := by
  obtain ⟨m, rfl⟩ : ∃ k, m = k + 1 := ⟨m - 1, by omega⟩
  have al := al_e
  have zE0 : zE = ent 0 ⟨#[]⟩ := rfl
  simp only [zE0] at al
  have key : Ends (F_dirent_first (evFn cx0 ext0 (m + 1)) (m + 1) 2 (.agg (u8l p)) (.fn 33 [] [.bp 1 0]) [u8l p, [.v (.string nm)]]) fun e s => (e = .ret ∨ e = .normal) ∧ ∃ r, resL Try.prog s.env s.bx [.tmp 4] = some [.v (.int .i64 (fnd (isN p nm)))] ∧ s.bx = [u8l p, [.v (.string nm)]] ++ r := by
    unfold F_dirent_first
    have stq := (box_agg)
    repeat first
      | ((with_reducible apply ends_bind); case h => first | (simp only [stp, stq]; first | done | rfl) | rfl)
      | ((with_reducible apply ends_t); case h => first | rfl | (simp only [stp, stq]; done))
      | ((with_reducible apply ends_f); case h => first | rfl | (simp only [stp, stq]; done))
    refine ends_loop (fun d st => ∃ (i : Nat) (y4 y0 : AV) (b0 b1 b2 : List AV), st = ⟨[(9, .v (.int .i64 i)), (4, y4), (2, .bp 2 0), (0, y0), (1, .fn 33 [] [.bp 1 0])], [b0, b1, b2]⟩ ∧
      b0 = u8l p ∧ b1 = [.v (.string nm)] ∧ b2 = u8l p ∧ (∀ j, j < i → isN p nm j = false) ∧ i + d = 4) 4 (by omega) ⟨0, _, _, _, _, _, rfl, rfl, rfl, rfl, by intro j h; omega, by omega⟩ ?_
    rintro d st ⟨i, y4, y0, b0, b1, b2, rfl, rfl, rfl, rfl, hno, hd⟩
    refine L_dirent_first_0_lit ?_
    unfold B_dirent_first_0
    rcases d with _ | d
    · have g2 : decide ((i : Int) < 4) = false := decide_eq_false (by omega)
      have stq := (g2)
      repeat first
        | ((with_reducible apply ends_bind); case h => first | (simp only [stp, stq]; first | done | rfl) | rfl)
        | ((with_reducible apply ends_t); case h => first | rfl | (simp only [stp, stq]; done))
        | ((with_reducible apply ends_f); case h => first | rfl | (simp only [stp, stq]; done))
      refine ends_some (.inr (.inl ⟨0, rfl, X_dirent_first_0_0_lit ?_⟩))
      unfold X_dirent_first_0_0
      obtain rfl : i = 4 := by omega
      rw [fnd_no hno]
      exact ends_some ⟨.inl rfl, [u8l p], rfl, rfl⟩
    · have g2 : decide ((i : Int) < 4) = true := decide_eq_true (by omega)
      have lp : loadA Try.prog 37 [u8l p, [.v (.string nm)], u8l p] (.bp 2 0) = some (.agg (u8l p)) := ld_a hL (P := Try.prog) (bx := [u8l p, [.v (.string nm)], u8l p]) (k := 2) (b := p) rfl hp
      have c1 : callA (evFn cx0 ext0 (m + 1)) md_dirent_first [u8l p, [.v (.string nm)], u8l p] 17 [.agg (u8l p), .v (.int .i64 i)] = some (atV (slB p i), [u8l p, [.v (.string nm)], u8l p]) := by
        rw [callA_frozen rfl]
        have ha : ([AV.agg (u8l p), .v (.int .i64 (i : Int))].map (frz [u8l p, [.v (.string nm)], u8l p] true 6)) = [.agg (u8l p), .v (.int .i64 i)] := by
          show [frz _ true 6 (AV.agg (u8l p)), _] = _
          rw [frz_agg]
          rfl
        rw [ha, AtA_ev (k := m + 1) (by omega) p hp i, show atA p i = atV (slB p i) from if_pos ⟨by omega, by omega⟩]
        rfl
      unfold atV at c1
      have e3 : IntKind.i64.wrap ((i : Int) + 1) = ((i + 1 : Nat) : Int) := by rw [wrap64]; omega
      obtain ⟨q, hq⟩ : ∃ q, q = isN p nm i := ⟨_, rfl⟩
      have hq2 := hq
      unfold isN at hq2
      generalize (rdE (slB p i)).1 = n at *
      generalize (rdE (slB p i)).2.1 = s at *
      generalize (rdE (slB p i)).2.2 = t at *
      have se : stA Try.prog 23 [u8l p, [.v (.string nm)], u8l p, ent 0 ⟨#[]⟩] (.bp 3 0) (.agg (ent n s)) = some (.v undef, [u8l p, [.v (.string nm)], u8l p, ent n s]) := by kernel_rfl
      have le : loadA Try.prog 23 [u8l p, [.v (.string nm)], u8l p, ent n s] (.bp 3 0) = some (.agg (ent n s)) := by kernel_rfl
      have c2 : callV (evFn cx0 ext0 (m + 1)) (mdV md_dirent_first) [u8l p, [.v (.string nm)], u8l p, ent n s] [.agg (ent n s), .v (.int .i64 t)] (.fn 33 [] [.bp 1 0]) = some (.v (.bool q), [u8l p, [.v (.string nm)], u8l p, ent n s]) := by
        have h := callA_objR (E := evFn cx0 ext0 (m + 1)) (md := mdV md_dirent_first) (f := 33) rfl (find1_raw m p nm n s t) (by simp) (by
          show eqBx [(u8l p).map _, ([AV.v (.string nm)]).map _, (u8l p).map _, (ent n s).map _] _ = true
          rw [u8l_keep, ent_keep]
          show (eqCs (u8l p) (u8l p) && (eqCs [.v (.string nm)] [.v (.string nm)] && (eqCs (u8l p) (u8l p) && (eqCs (ent n s) (ent n s) && true)))) = true
          rw [eqCs_u8, eqCs_ent, eqCs_str]
          rfl)
        rw [hq2]
        exact h
      cases q
      · skip
        have stq := (And.intro (g2) (And.intro (lp) (And.intro (c1) (And.intro (al) (And.intro (se) (And.intro (le) (And.intro (c2) (e3))))))))
        repeat first
          | ((with_reducible apply ends_bind); case h => first | (simp only [stp, stq]; first | done | rfl) | rfl)
          | ((with_reducible apply ends_t); case h => first | rfl | (simp only [stp, stq]; done))
          | ((with_reducible apply ends_f); case h => first | rfl | (simp only [stp, stq]; done))
        refine ends_some (.inl ⟨rfl, d, by omega, i + 1, _, _, _, _, _, by first | rfl | (rw [← e3]; rfl), u8l_keep _ _, rfl, u8l_keep _ _, fun j hj => ?_, by omega⟩)
        rcases Nat.lt_or_ge j i with h | h
        · exact hno j h
        · obtain rfl : j = i := by omega
          exact hq.symm
      · skip
        have stq := (And.intro (g2) (And.intro (lp) (And.intro (c1) (And.intro (al) (And.intro (se) (And.intro (le) (c2)))))))
        repeat first
          | ((with_reducible apply ends_bind); case h => first | (simp only [stp, stq]; first | done | rfl) | rfl)
          | ((with_reducible apply ends_t); case h => first | rfl | (simp only [stp, stq]; done))
          | ((with_reducible apply ends_f); case h => first | rfl | (simp only [stp, stq]; done))
        rw [fnd_at hno (by omega) hq.symm]
        exact ends_some (.inr (.inr ⟨rfl, .inl rfl, [u8l p, ent n s], rfl, rfl⟩))
  rw [E_dirent_first]
  obtain ⟨e, s, h1, h2, r, h3, h4⟩ := key
  refine ⟨r, ?_⟩
  refine ends_fin (P := Try.prog) ⟨e, s, h1, h2, _, h3, ?_⟩
  rw [h4]
  rfl
theorem Find_ev {k : Nat} (hk : 80 ≤ k) (p : List UInt8) (hp : p.length = 54) (nm : ByteArray) : cf (evFn cx0 ext0 k) 20 [.agg (u8l p), .v (.string nm)] = some (.v (.int .i64 (fnd (isN p nm)))) := by
  obtain ⟨m, rfl⟩ : ∃ m, k = m + 2 := ⟨k - 2, by omega⟩
  have lp := fun r => ld_a hL (P := Try.prog) (bx := u8l p :: r) (k := 0) (b := p) rfl hp
  obtain ⟨r, h⟩ := firstF m (by omega) p hp nm
  have c1 : callA (evFn cx0 ext0 (m + 1)) md_dirent_Find [u8l p, [.v (.string nm)]] 32 [.agg (u8l p), .fn 33 [] [.bp 1 0]] = some (.v (.int .i64 (fnd (isN p nm))), [u8l p, [.v (.string nm)]]) := by
    rw [callA_objT rfl h (by simp)]
    show some (_, [(u8l p).map _, _]) = _
    rw [u8l_keep]
    rfl
  have bs : ∀ bx, boxA bx (.v (.string nm)) = some (.bp bx.length 0, bx ++ [[.v (.string nm)]]) := fun bx => rfl
  unfold cf
  rw [E_dirent_Find]
  refine ends_cf (P := Try.prog) ?_
  unfold F_dirent_Find
  have stq := (And.intro (box_agg) (And.intro (bs) (And.intro (lp) (c1))))
  repeat first
    | ((with_reducible apply ends_bind); case h => first | (simp only [stp, stq]; first | done | rfl) | rfl)
    | ((with_reducible apply ends_t); case h => first | rfl | (simp only [stp, stq]; done))
    | ((with_reducible apply ends_f); case h => first | rfl | (simp only [stp, stq]; done))
  exact ends_some ⟨.inl rfl, _, rfl, rfl⟩
theorem room1_ev (m : Nat) (n : Int) (s : ByteArray) (st : Int) : cf (evFn cx0 ext0 (m + 1)) 34 [.agg (ent n s), .v (.int .i64 st)] = some (.v (.bool (st == 0))) := by
  unfold cf
  rw [E_dirent_Room_1]
  refine ends_cf (P := Try.prog) ?_
  unfold F_dirent_Room_1
  have stq := (box_e)
  repeat first
    | ((with_reducible apply ends_bind); case h => first | (simp only [stp, stq]; first | done | rfl) | rfl)
    | ((with_reducible apply ends_t); case h => first | rfl | (simp only [stp, stq]; done))
    | ((with_reducible apply ends_f); case h => first | rfl | (simp only [stp, stq]; done))
  exact ends_some ⟨.inl rfl, _, rfl, rfl⟩
theorem firstR (m : Nat) (hm : 70 ≤ m) (p : List UInt8) (hp : p.length = 54) : cf (evFn cx0 ext0 (m + 1)) 32 [.agg (u8l p), .fn 34 [] []] = some (.v (.int .i64 (fnd (isR p)))) := by
  obtain ⟨m, rfl⟩ : ∃ k, m = k + 1 := ⟨m - 1, by omega⟩
  have al := al_e
  have zE0 : zE = ent 0 ⟨#[]⟩ := rfl
  simp only [zE0] at al
  unfold cf
  rw [E_dirent_first]
  refine ends_cf (P := Try.prog) ?_
  unfold F_dirent_first
  have stq := (box_agg)
  repeat first
    | ((with_reducible apply ends_bind); case h => first | (simp only [stp, stq]; first | done | rfl) | rfl)
    | ((with_reducible apply ends_t); case h => first | rfl | (simp only [stp, stq]; done))
    | ((with_reducible apply ends_f); case h => first | rfl | (simp only [stp, stq]; done))
  refine ends_loop (fun d st => ∃ (i : Nat) (y4 y0 : AV) (b0 : List AV), st = ⟨[(9, .v (.int .i64 i)), (4, y4), (2, .bp 0 0), (0, y0), (1, .fn 34 [] [])], [b0]⟩ ∧
    b0 = u8l p ∧ (∀ j, j < i → isR p j = false) ∧ i + d = 4) 4 (by omega) ⟨0, _, _, _, rfl, rfl, by intro j h; omega, by omega⟩ ?_
  rintro d st ⟨i, y4, y0, b0, rfl, rfl, hno, hd⟩
  refine L_dirent_first_0_lit ?_
  unfold B_dirent_first_0
  rcases d with _ | d
  · have g2 : decide ((i : Int) < 4) = false := decide_eq_false (by omega)
    have stq := (g2)
    repeat first
      | ((with_reducible apply ends_bind); case h => first | (simp only [stp, stq]; first | done | rfl) | rfl)
      | ((with_reducible apply ends_t); case h => first | rfl | (simp only [stp, stq]; done))
      | ((with_reducible apply ends_f); case h => first | rfl | (simp only [stp, stq]; done))
    refine ends_some (.inr (.inl ⟨0, rfl, X_dirent_first_0_0_lit ?_⟩))
    unfold X_dirent_first_0_0
    obtain rfl : i = 4 := by omega
    rw [fnd_no hno]
    exact ends_some ⟨.inl rfl, _, rfl, rfl⟩
  · have g2 : decide ((i : Int) < 4) = true := decide_eq_true (by omega)
    have lp : loadA Try.prog 37 [u8l p] (.bp 0 0) = some (.agg (u8l p)) := ld_a hL (P := Try.prog) (bx := [u8l p]) (k := 0) (b := p) rfl hp
    have c1 : callA (evFn cx0 ext0 (m + 1)) md_dirent_first [u8l p] 17 [.agg (u8l p), .v (.int .i64 i)] = some (atV (slB p i), [u8l p]) := by
      rw [callA_frozen rfl]
      have ha : ([AV.agg (u8l p), .v (.int .i64 (i : Int))].map (frz [u8l p] true 6)) = [.agg (u8l p), .v (.int .i64 i)] := by
        show [frz _ true 6 (AV.agg (u8l p)), _] = _
        rw [frz_agg]
        rfl
      rw [ha, AtA_ev (k := m + 1) (by omega) p hp i, show atA p i = atV (slB p i) from if_pos ⟨by omega, by omega⟩]
      rfl
    unfold atV at c1
    have e3 : IntKind.i64.wrap ((i : Int) + 1) = ((i + 1 : Nat) : Int) := by rw [wrap64]; omega
    obtain ⟨q, hq⟩ : ∃ q, q = isR p i := ⟨_, rfl⟩
    have hq2 := hq
    unfold isR at hq2
    generalize (rdE (slB p i)).1 = n at *
    generalize (rdE (slB p i)).2.1 = s at *
    generalize (rdE (slB p i)).2.2 = t at *
    have se := fun r => (st_e (u8l p) [] [] [] [] 0 n ⟨#[]⟩ s r).1
    have le := fun r => (ld_e (u8l p) [] [] [] [] n s r).2.1
    have c2 : callV (evFn cx0 ext0 (m + 1)) (mdV md_dirent_first) [u8l p, ent n s] [.agg (ent n s), .v (.int .i64 t)] (.fn 34 [] []) = some (.v (.bool q), [u8l p, ent n s]) := by
      rw [callV_fn, callA_frozen rfl]
      show (cf (evFn cx0 ext0 (m + 1)) 34 [.agg (ent n s), .v (.int .i64 t)]).map _ = _
      rw [room1_ev, hq2]
      rfl
    cases q
    · skip
      have stq := (And.intro (g2) (And.intro (lp) (And.intro (c1) (And.intro (al) (And.intro (se) (And.intro (le) (And.intro (c2) (e3))))))))
      repeat first
        | ((with_reducible apply ends_bind); case h => first | (simp only [stp, stq]; first | done | rfl) | rfl)
        | ((with_reducible apply ends_t); case h => first | rfl | (simp only [stp, stq]; done))
        | ((with_reducible apply ends_f); case h => first | rfl | (simp only [stp, stq]; done))
      refine ends_some (.inl ⟨rfl, d, by omega, i + 1, _, _, _, by first | rfl | (rw [← e3]; rfl), u8l_keep _ _, fun j hj => ?_, by omega⟩)
      rcases Nat.lt_or_ge j i with h | h
      · exact hno j h
      · obtain rfl : j = i := by omega
        exact hq.symm
    · skip
      have stq := (And.intro (g2) (And.intro (lp) (And.intro (c1) (And.intro (al) (And.intro (se) (And.intro (le) (c2)))))))
      repeat first
        | ((with_reducible apply ends_bind); case h => first | (simp only [stp, stq]; first | done | rfl) | rfl)
        | ((with_reducible apply ends_t); case h => first | rfl | (simp only [stp, stq]; done))
        | ((with_reducible apply ends_f); case h => first | rfl | (simp only [stp, stq]; done))
      rw [fnd_at hno (by omega) hq.symm]
      exact ends_some (.inr (.inr ⟨rfl, .inl rfl, _, rfl, rfl⟩))
theorem Room_ev {k : Nat} (hk : 80 ≤ k) (p : List UInt8) (hp : p.length = 54) : cf (evFn cx0 ext0 k) 22 [.agg (u8l p)] = some (.v (.int .i64 (fnd (isR p)))) := by
  obtain ⟨m, rfl⟩ : ∃ m, k = m + 2 := ⟨k - 2, by omega⟩
  have lp := fun r => ld_a hL (P := Try.prog) (bx := u8l p :: r) (k := 0) (b := p) rfl hp
  have c1 := firstR m (by omega) p hp
  have ff : ∀ bx, frz bx true 6 (.fn 34 [] []) = .fn 34 [] [] := fun _ => rfl
  unfold cf
  rw [E_dirent_Room]
  refine ends_cf (P := Try.prog) ?_
  unfold F_dirent_Room
  have stq := (And.intro (box_agg) (And.intro (lp) (And.intro (frz_agg) (And.intro (ff) (c1)))))
  repeat first
    | ((with_reducible apply ends_bind); case h => first | (simp only [stp, stq]; first | done | rfl) | rfl)
    | ((with_reducible apply ends_t); case h => first | rfl | (simp only [stp, stq]; done))
    | ((with_reducible apply ends_f); case h => first | rfl | (simp only [stp, stq]; done))
  exact ends_some ⟨.inl rfl, _, rfl, rfl⟩
theorem rFind_ev {k : Nat} (hk : 80 ≤ k) (p : List UInt8) (hp : p.length = 54) (nm : ByteArray) : cf (evFn cx0 ext0 k) 21 [.agg (u8l p), .v (.string nm)] = some (.v (.int .i64 (fnd (isN p nm)))) := by
  obtain ⟨m, rfl⟩ : ∃ m, k = m + 2 := ⟨k - 2, by omega⟩
  have al := al_e
  have zE0 : zE = ent 0 ⟨#[]⟩ := rfl
  simp only [zE0] at al
  unfold cf
  rw [E_r12_Find]
  refine ends_cf (P := Try.prog) ?_
  unfold F_r12_Find
  have stq := (box_agg)
  repeat first
    | ((with_reducible apply ends_bind); case h => first | (simp only [stp, stq]; first | done | rfl) | rfl)
    | ((with_reducible apply ends_t); case h => first | rfl | (simp only [stp, stq]; done))
    | ((with_reducible apply ends_f); case h => first | rfl | (simp only [stp, stq]; done))
  refine ends_loop (fun d st => ∃ (i : Nat) (y4 y0 : AV) (b0 : List AV), st = ⟨[(5, .v (.int .i64 i)), (4, y4), (2, .bp 0 0), (0, y0), (1, .v (.string nm))], [b0]⟩ ∧
    b0 = u8l p ∧ (∀ j, j < i → isN p nm j = false) ∧ i + d = 4) 4 (by omega) ⟨0, _, _, _, rfl, rfl, by intro j h; omega, by omega⟩ ?_
  rintro d st ⟨i, y4, y0, b0, rfl, rfl, hno, hd⟩
  refine L_r12_Find_0_lit ?_
  unfold B_r12_Find_0
  rcases d with _ | d
  · have g2 : decide ((i : Int) < 4) = false := decide_eq_false (by omega)
    have stq := (g2)
    repeat first
      | ((with_reducible apply ends_bind); case h => first | (simp only [stp, stq]; first | done | rfl) | rfl)
      | ((with_reducible apply ends_t); case h => first | rfl | (simp only [stp, stq]; done))
      | ((with_reducible apply ends_f); case h => first | rfl | (simp only [stp, stq]; done))
    refine ends_some (.inr (.inl ⟨0, rfl, X_r12_Find_0_0_lit ?_⟩))
    unfold X_r12_Find_0_0
    obtain rfl : i = 4 := by omega
    rw [fnd_no hno]
    exact ends_some ⟨.inl rfl, _, rfl, rfl⟩
  · have g2 : decide ((i : Int) < 4) = true := decide_eq_true (by omega)
    have lp := fun r => ld_a hL (P := Try.prog) (bx := u8l p :: r) (k := 0) (b := p) rfl hp
    have c1 := rAtA_ev (k := m + 1) (by omega) p hp i
    rw [show atA p i = atV (slB p i) from if_pos ⟨by omega, by omega⟩] at c1
    unfold atV at c1
    have e3 : IntKind.i64.wrap ((i : Int) + 1) = ((i + 1 : Nat) : Int) := by rw [wrap64]; omega
    obtain ⟨q, hq⟩ : ∃ q, q = isN p nm i := ⟨_, rfl⟩
    have hq2 := hq
    unfold isN at hq2
    generalize (rdE (slB p i)).1 = n at *
    generalize (rdE (slB p i)).2.1 = s at *
    generalize (rdE (slB p i)).2.2 = t at *
    have se := fun r => (st_e (u8l p) [] [] [] [] 0 n ⟨#[]⟩ s r).1
    have fa := fa_e 1
    have fl := fun r => (fl_e n s (u8l p) r).2.2.2
    have es := eq_s s nm
    cases h1 : (t == 1)
    · rw [h1, Bool.false_and] at hq2
      subst hq2
      have stq := (And.intro (g2) (And.intro (lp) (And.intro (frz_agg) (And.intro (c1) (And.intro (al) (And.intro (se) (And.intro (h1) (e3))))))))
      repeat first
        | ((with_reducible apply ends_bind); case h => first | (simp only [stp, stq]; first | done | rfl) | rfl)
        | ((with_reducible apply ends_t); case h => first | rfl | (simp only [stp, stq]; done))
        | ((with_reducible apply ends_f); case h => first | rfl | (simp only [stp, stq]; done))
      refine ends_some (.inl ⟨rfl, d, by omega, i + 1, _, _, _, by first | rfl | (rw [← e3]; rfl), u8l_keep _ _, fun j hj => ?_, by omega⟩)
      rcases Nat.lt_or_ge j i with h | h
      · exact hno j h
      · obtain rfl : j = i := by omega
        exact hq.symm
    · rw [h1, Bool.true_and] at hq2
      rw [← hq2] at es
      clear hq2
      cases q
      · skip
        have stq := (And.intro (g2) (And.intro (lp) (And.intro (frz_agg) (And.intro (c1) (And.intro (al) (And.intro (se) (And.intro (h1) (And.intro (fa) (And.intro (fl) (And.intro (es) (e3)))))))))))
        repeat first
          | ((with_reducible apply ends_bind); case h => first | (simp only [stp, stq]; first | done | rfl) | rfl)
          | ((with_reducible apply ends_t); case h => first | rfl | (simp only [stp, stq]; done))
          | ((with_reducible apply ends_f); case h => first | rfl | (simp only [stp, stq]; done))
        refine ends_some (.inl ⟨rfl, d, by omega, i + 1, _, _, _, by first | rfl | (rw [← e3]; rfl), u8l_keep _ _, fun j hj => ?_, by omega⟩)
        rcases Nat.lt_or_ge j i with h | h
        · exact hno j h
        · obtain rfl : j = i := by omega
          exact hq.symm
      · skip
        have stq := (And.intro (g2) (And.intro (lp) (And.intro (frz_agg) (And.intro (c1) (And.intro (al) (And.intro (se) (And.intro (h1) (And.intro (fa) (And.intro (fl) (es))))))))))
        repeat first
          | ((with_reducible apply ends_bind); case h => first | (simp only [stp, stq]; first | done | rfl) | rfl)
          | ((with_reducible apply ends_t); case h => first | rfl | (simp only [stp, stq]; done))
          | ((with_reducible apply ends_f); case h => first | rfl | (simp only [stp, stq]; done))
        rw [fnd_at hno (by omega) hq.symm]
        exact ends_some (.inr (.inr ⟨rfl, .inl rfl, _, rfl, rfl⟩))
theorem rRoom_ev {k : Nat} (hk : 80 ≤ k) (p : List UInt8) (hp : p.length = 54) : cf (evFn cx0 ext0 k) 23 [.agg (u8l p)] = some (.v (.int .i64 (fnd (isR p)))) := by
  obtain ⟨m, rfl⟩ : ∃ m, k = m + 2 := ⟨k - 2, by omega⟩
  have al := al_e
  have zE0 : zE = ent 0 ⟨#[]⟩ := rfl
  simp only [zE0] at al
  unfold cf
  rw [E_r12_Room]
  refine ends_cf (P := Try.prog) ?_
  unfold F_r12_Room
  have stq := (box_agg)
  repeat first
    | ((with_reducible apply ends_bind); case h => first | (simp only [stp, stq]; first | done | rfl) | rfl)
    | ((with_reducible apply ends_t); case h => first | rfl | (simp only [stp, stq]; done))
    | ((with_reducible apply ends_f); case h => first | rfl | (simp only [stp, stq]; done))
  refine ends_loop (fun d st => ∃ (i : Nat) (y2 y0 : AV) (b0 : List AV), st = ⟨[(3, .v (.int .i64 i)), (2, y2), (1, .bp 0 0), (0, y0)], [b0]⟩ ∧
    b0 = u8l p ∧ (∀ j, j < i → isR p j = false) ∧ i + d = 4) 4 (by omega) ⟨0, _, _, _, rfl, rfl, by intro j h; omega, by omega⟩ ?_
  rintro d st ⟨i, y2, y0, b0, rfl, rfl, hno, hd⟩
  refine L_r12_Room_0_lit ?_
  unfold B_r12_Room_0
  rcases d with _ | d
  · have g2 : decide ((i : Int) < 4) = false := decide_eq_false (by omega)
    have stq := (g2)
    repeat first
      | ((with_reducible apply ends_bind); case h => first | (simp only [stp, stq]; first | done | rfl) | rfl)
      | ((with_reducible apply ends_t); case h => first | rfl | (simp only [stp, stq]; done))
      | ((with_reducible apply ends_f); case h => first | rfl | (simp only [stp, stq]; done))
    refine ends_some (.inr (.inl ⟨0, rfl, X_r12_Room_0_0_lit ?_⟩))
    unfold X_r12_Room_0_0
    obtain rfl : i = 4 := by omega
    rw [fnd_no hno]
    exact ends_some ⟨.inl rfl, _, rfl, rfl⟩
  · have g2 : decide ((i : Int) < 4) = true := decide_eq_true (by omega)
    have lp := fun r => ld_a hL (P := Try.prog) (bx := u8l p :: r) (k := 0) (b := p) rfl hp
    have c1 := rAtA_ev (k := m + 1) (by omega) p hp i
    rw [show atA p i = atV (slB p i) from if_pos ⟨by omega, by omega⟩] at c1
    unfold atV at c1
    have e3 : IntKind.i64.wrap ((i : Int) + 1) = ((i + 1 : Nat) : Int) := by rw [wrap64]; omega
    obtain ⟨q, hq⟩ : ∃ q, q = isR p i := ⟨_, rfl⟩
    have hq2 := hq
    unfold isR at hq2
    generalize (rdE (slB p i)).1 = n at *
    generalize (rdE (slB p i)).2.1 = s at *
    generalize (rdE (slB p i)).2.2 = t at *
    have se := fun r => (st_e (u8l p) [] [] [] [] 0 n ⟨#[]⟩ s r).1
    have h1 := hq2.symm
    cases q
    · skip
      have stq := (And.intro (g2) (And.intro (lp) (And.intro (frz_agg) (And.intro (c1) (And.intro (al) (And.intro (se) (And.intro (h1) (e3))))))))
      repeat first
        | ((with_reducible apply ends_bind); case h => first | (simp only [stp, stq]; first | done | rfl) | rfl)
        | ((with_reducible apply ends_t); case h => first | rfl | (simp only [stp, stq]; done))
        | ((with_reducible apply ends_f); case h => first | rfl | (simp only [stp, stq]; done))
      refine ends_some (.inl ⟨rfl, d, by omega, i + 1, _, _, _, by first | rfl | (rw [← e3]; rfl), u8l_keep _ _, fun j hj => ?_, by omega⟩)
      rcases Nat.lt_or_ge j i with h | h
      · exact hno j h
      · obtain rfl : j = i := by omega
        exact hq.symm
    · skip
      have stq := (And.intro (g2) (And.intro (lp) (And.intro (frz_agg) (And.intro (c1) (And.intro (al) (And.intro (se) (h1)))))))
      repeat first
        | ((with_reducible apply ends_bind); case h => first | (simp only [stp, stq]; first | done | rfl) | rfl)
        | ((with_reducible apply ends_t); case h => first | rfl | (simp only [stp, stq]; done))
        | ((with_reducible apply ends_f); case h => first | rfl | (simp only [stp, stq]; done))
      rw [fnd_at hno (by omega) hq.symm]
      exact ends_some (.inr (.inr ⟨rfl, .inl rfl, _, rfl, rfl⟩))
end Go.Sy
