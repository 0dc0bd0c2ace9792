/-
  Layer 12: what the reference reads, and lays.
-/
import Derived.Test.YtmegbgmgpogfoaaPfDirR
namespace Go.Sy
open Go.Proofs Go.Proofs.Ytmegbgmgpogfoaa Num

theorem slc_b (bx : Bx) (b off n lo hi : Nat) (h1 : lo ≤ hi) (h2 : hi ≤ n) : sliceA Try.prog bx 28 (.bsl b off n 1) (some (.v (.int .i64 lo))) (some (.v (.int .i64 hi))) none = some (.bsl b (off + lo * 1) (hi - lo) 1) := by
  have h : sliceA Try.prog bx 28 (.bsl b off n 1) (some (.v (.int .i64 lo))) (some (.v (.int .i64 hi))) none = ((if 0 ≤ (hi : Int) ∧ (hi : Int) ≤ n then some (hi : Int).toNat else none).bind fun h => (if 0 ≤ (lo : Int) ∧ (lo : Int) ≤ h then some (lo : Int).toNat else none).bind fun l => some (.bsl b (off + l * 1) (h - l) 1)) := by kernel_rfl
  rw [h, if_pos ⟨by omega, by omega⟩, Option.bind_some, Int.toNat_natCast, if_pos ⟨by omega, by omega⟩, Option.bind_some, Int.toNat_natCast]
theorem eq_z (x : UInt8) : binA Try.prog .eql 5 (u8 x) (.v (.int .u8 0)) = some (.v (.bool (x == 0))) := by
  have h : binA Try.prog .eql 5 (u8 x) (.v (.int .u8 0)) = some (.v (.bool ((x.toNat : Int) == 0))) := by kernel_rfl
  rw [h]
  congr 3
  rw [Bool.eq_iff_iff]
  simp only [beq_iff_eq]
  constructor
  · intro hx
    exact UInt8.toNat_inj.mp (by simpa using hx)
  · rintro rfl
    rfl
theorem str_ne (a b : List UInt8) : binA Try.prog .neq 9 (.v (.string ⟨a.toArray⟩)) (.v (.string ⟨b.toArray⟩)) = some (.v (.bool (!(a == b)))) := by
  have h : binA Try.prog .neq 9 (.v (.string ⟨a.toArray⟩)) (.v (.string ⟨b.toArray⟩)) = some (.v (.bool !((ByteArray.mk a.toArray).toList == (ByteArray.mk b.toArray).toList))) := by kernel_rfl
  rw [h, lst, lst]
theorem conv_sl (bx : Bx) (n : Nat) (b : List UInt8) (f : Bool) (hn : n = b.length) : convA Try.prog bx 28 9 (.sl n (u8l b) f) = some (.v (.string ⟨b.toArray⟩), bx) := by
  subst hn
  have h : convA Try.prog bx 28 9 (.sl b.length (u8l b) f) = if inA Try.prog 5 = some .u8 ∧ (u8l b).length = b.length then (bytesA (u8l b)).map fun l => (.v (.string ⟨l.toArray⟩), bx) else none := by kernel_rfl
  rw [h, if_pos ⟨by kernel_rfl, u8l_len b⟩, u8l_bytes]
  rfl
theorem nm_eq (p : List UInt8) (hp : p.length = 54) (j : Nat) (hj : j < 4) (x : Nat) (hx : x = ((slB p j).getD 2 0).toNat) : (p.drop (13 * j + 3 * 1)).take (3 + min x 10 - 3) = nmB (slB p j) := by
  subst hx
  unfold nmB
  generalize ((slB p j).getD 2 0).toNat = x
  unfold slB
  rw [List.drop_take, List.drop_drop, List.take_take]
  rw [show 3 + min x 10 - 3 = min (min (3 + x) 13 - 3) (13 - 3) by omega]
def badAt : AV := .tup [.agg zE, .v (.int .i64 0), .v (.int .i64 2)]
theorem rAt_ev {k : Nat} (hk : 60 ≤ k) (p : List UInt8) (hp : p.length = 54) (j : Nat) (hj : j < 4) : cf (evFn cx0 ext0 k) 24 [.agg (u8l p), .v (.int .i64 j)] = some (atV (slB p j)) := by
  obtain ⟨m, rfl⟩ : ∃ m, k = m + 2 := ⟨k - 2, by omega⟩
  have g0 : decide ((j : Int) < 0) = false := decide_eq_false (by omega)
  have g1 : decide ((j : Int) > 3) = false := decide_eq_false (by omega)
  have e1 : IntKind.i64.wrap (13 * (j : Int)) = ((13 * j : Nat) : Int) := by rw [wsm (by omega) (by omega)]; omega
  have e2 : IntKind.i64.wrap (((13 * j : Nat) : Int) + 13) = ((13 * j + 13 : Nat) : Int) := by rw [wsm (by omega) (by omega)]; omega
  have al := al_e
  have zE0 : zE = ent 0 ⟨#[]⟩ := rfl
  simp only [zE0] at al
  have q0 := sl_a2 hL (P := Try.prog) (bx := [u8l p, ent 0 ⟨#[]⟩]) (k := 0) (b := p) rfl hp .i64 .i64 (13 * j) (13 * j + 13) (by omega) (by omega)
  rw [show 13 * j + 13 - 13 * j = 13 by omega] at q0
  have hbl := slB_len p hp j hj
  unfold cf
  rw [E_r12_At]
  refine ends_cf (P := Try.prog) ?_
  unfold F_r12_At
  have stq := (And.intro (box_agg) (And.intro (al) (And.intro (g0) (And.intro (g1) (And.intro (e1) (And.intro (e2) (q0)))))))
  repeat first
    | ((with_reducible apply ends_bind); case h => first | (simp only [stp, stq]; first | done | rfl) | rfl)
    | ((with_reducible apply ends_t); case h => first | rfl | (simp only [stp, stq]; done))
    | ((with_reducible apply ends_f); case h => first | rfl | (simp only [stp, stq]; done))
  refine ends_loop (fun d st => ∃ (i : Nat) (e : Bool) (y20 y0 y1 : AV) (b0 b1 : List AV), st = ⟨[(9, .v (.int .i64 i)), (8, .v (.bool e)), (7, .bsl 0 (13 * j) 13 1), (20, y20), (6, .v (.int .i64 0)), (5, .v (.int .i64 0)), (4, .bp 1 0), (2, .bp 0 0), (0, y0), (1, y1)], [b0, b1]⟩ ∧
    b0 = u8l p ∧ b1 = ent 0 ⟨#[]⟩ ∧ (e = true ↔ (slB p j).take i = zero i) ∧ i + d = 13) 13 (by omega) ⟨0, true, _, _, _, _, _, rfl, rfl, rfl, by simp, by omega⟩ ?_
  rintro d st ⟨i, e, y20, y0, y1, b0, b1, rfl, rfl, rfl, he, hd⟩
  refine L_r12_At_0_lit ?_
  unfold B_r12_At_0
  rcases d with _ | d
  · have g2 : decide ((i : Int) < 13) = false := decide_eq_false (by omega)
    have stq := (g2)
    repeat first
      | ((with_reducible apply ends_bind); case h => first | (simp only [stp, stq]; first | done | rfl) | rfl)
      | ((with_reducible apply ends_t); case h => first | rfl | (simp only [stp, stq]; done))
      | ((with_reducible apply ends_f); case h => first | rfl | (simp only [stp, stq]; done))
    refine ends_some (.inr (.inl ⟨0, rfl, X_r12_At_0_0_lit ?_⟩))
    unfold X_r12_At_0_0
    obtain rfl : i = 13 := by omega
    rw [List.take_of_length_le (by omega)] at he
    unfold atV
    cases e
    · have hz : ¬ slB p j = zero 13 := fun h => by rw [← he] at h; simp at h
      have rd : rdE (slB p j) = if okE (nb (slB p j)) (nmB (slB p j)) = true ∧ eb (nb (slB p j)) (nmB (slB p j)) = slB p j then ((nb (slB p j) : Int), ⟨(nmB (slB p j)).toArray⟩, 1) else (0, ⟨#[]⟩, 2) := by
        unfold rdE
        rw [if_neg hz]
      have hn := nb_lt (slB p j)
      have f0 : ∀ r, frz (u8l p :: r) true 6 (.bsl 0 (13 * j) 13 1) = byt true (slB p j) := fun r => frz_bo (b := p) (d := 4) true rfl (by omega)
      have c1 : cf (evFn cx0 ext0 (m + 1)) 35 [byt true (slB p j), .v (.int .i64 0)] = some (.tup [.v (.int .u16 (nb (slB p j) : Nat)), .v (.int .i64 0)]) := by
        rw [rGet16_ev (m := m + 1) (by omega) (slB p j) true 0 (by omega) (by omega)]
        unfold getV
        rw [if_neg (by omega)]
        rfl
      have cv := fun bx => cv_n bx (nb (slB p j)) hn
      have x2 : indexAddrA Try.prog 28 (.bsl 0 (13 * j) 13 1) (.v (.int .i64 2)) = some (.bp 0 (13 * j + 2)) := idx_b8 t8 (P := Try.prog) 0 (13 * j) 13 .i64 2 (by omega)
      obtain ⟨x, hx⟩ : ∃ x, x = (slB p j).getD 2 0 := ⟨_, rfl⟩
      have l2 : ∀ r, loadA Try.prog 5 (u8l p :: r) (.bp 0 (13 * j + 2)) = some (u8 x) := by
        intro r
        rw [ld_b8 sz8 ag8 (u8l p :: r) 0 (13 * j + 2) p rfl (by omega), hx, List.getD_eq_getElem?_getD]
        unfold slB
        rw [List.getElem?_take, if_pos (by omega), List.getElem?_drop, List.getElem?_eq_getElem (by omega)]
        rfl
      have c8 := fun bx => cv_8 bx x
      have hxl := UInt8.toNat_lt x
      have e3 : min (x.toNat : Int) 10 = ((min x.toNat 10 : Nat) : Int) := by omega
      have e4 : IntKind.i64.wrap (3 + ((min x.toNat 10 : Nat) : Int)) = ((3 + min x.toNat 10 : Nat) : Int) := by rw [wsm (by omega) (by omega)]; omega
      have q1 : sliceA Try.prog [u8l p, ent 0 ⟨#[]⟩] 28 (.bsl 0 (13 * j) 13 1) (some (.v (.int .i64 3))) (some (.v (.int .i64 ((3 + min x.toNat 10 : Nat) : Int)))) none = some (.bsl 0 (13 * j + 3 * 1) (3 + min x.toNat 10 - 3) 1) := slc_b _ 0 (13 * j) 13 3 (3 + min x.toNat 10) (by omega) (by omega)
      have cs := cv_str [u8l p, ent 0 ⟨#[]⟩] 0 (13 * j + 3 * 1) (3 + min x.toNat 10 - 3) p rfl (by omega)
      rw [nm_eq p hp j hj x.toNat (by rw [hx])] at cs
      have be := b_e (nb (slB p j)) ⟨(nmB (slB p j)).toArray⟩
      have c2 := rPut_ev (k := m + 1) (by omega) (nb (slB p j)) ⟨(nmB (slB p j)).toArray⟩
      have hdd : (ByteArray.mk (nmB (slB p j)).toArray).data.toList = nmB (slB p j) := rfl
      rw [hdd] at c2
      have cb : ∀ r, convA Try.prog (u8l p :: r) 28 9 (.bsl 0 (13 * j) 13 1) = some (.v (.string ⟨(slB p j).toArray⟩), u8l p :: r) := fun r => cv_str (u8l p :: r) 0 (13 * j) 13 p rfl (by omega)
      have hnm := nm_len (slB p j) hbl
      rw [rd]
      clear rd
      generalize nmB (slB p j) = nm at *
      generalize nb (slB p j) = nn at *
      have se2 := fun n n' s s' r => (st_e (u8l p) (ent 0 ⟨#[]⟩) [] [] [] n n' s s' r).2.1
      have le2 := fun n s r => (ld_e (u8l p) (ent 0 ⟨#[]⟩) [] [] [] n s r).2.2.1
      have ze := z_e
      rw [zE0] at ze
      have se1 := fun n n' s s' r => (st_e (u8l p) [] [] [] [] n n' s s' r).1
      cases ho : okE nn nm
      · have hpv : rputV nn nm = .tup [byt false (zero 13), .v (.int .i64 (putE nn))] := by unfold rputV; rw [if_neg (by rw [ho]; simp)]
        rw [hpv] at c2
        have g3 := putE_ne nn
        rw [if_neg (fun h => absurd h.1 (by simp))]
        have stq := (And.intro (f0) (And.intro (c1) (And.intro (cv) (And.intro (x2) (And.intro (l2) (And.intro (c8) (And.intro (e3) (And.intro (e4) (And.intro (q1) (And.intro (cs) (And.intro (be) (And.intro (al) (And.intro (se2) (And.intro (le2) (And.intro (frz_e) (And.intro (c2) (And.intro (g3) (And.intro (ze) (se1)))))))))))))))))))
        repeat first
          | ((with_reducible apply ends_bind); case h => first | (simp only [stp, stq]; first | done | rfl) | rfl)
          | ((with_reducible apply ends_t); case h => first | rfl | (simp only [stp, stq]; done))
          | ((with_reducible apply ends_f); case h => first | rfl | (simp only [stp, stq]; done))
        exact ends_some (retq_ctt (ld_e (u8l p) [] [] [] [] _ _ _).2.1 (frz_e5 _ _ _ _))
      · have hpv : rputV nn nm = .tup [byt false (eb nn nm), .v (.int .i64 0)] := by unfold rputV; rw [if_pos ho]; rfl
        rw [hpv] at c2
        have g3 : ((0 : Int) != 0) = false := rfl
        have hel : 13 = (eb nn nm).length := by
          have hl : nm.length ≤ 10 := by omega
          exact (eb_len nn nm hl).symm
        have cc := fun bx => conv_sl bx (eb nn nm).length (eb nn nm) false rfl
        have sn := str_ne (eb nn nm) (slB p j)
        by_cases hb : eb nn nm = slB p j
        · have g4 : (!(eb nn nm == slB p j)) = false := by simp [hb]
          rw [if_pos ⟨rfl, hb⟩]
          have stq := (And.intro (f0) (And.intro (c1) (And.intro (cv) (And.intro (x2) (And.intro (l2) (And.intro (c8) (And.intro (e3) (And.intro (e4) (And.intro (q1) (And.intro (cs) (And.intro (be) (And.intro (al) (And.intro (se2) (And.intro (le2) (And.intro (frz_e) (And.intro (c2) (And.intro (g3) (And.intro (cc) (And.intro (cb) (And.intro (sn) (And.intro (g4) (se1))))))))))))))))))))))
          repeat first
            | ((with_reducible apply ends_bind); case h => first | (simp only [stp, stq]; first | done | rfl) | rfl)
            | ((with_reducible apply ends_t); case h => first | rfl | (simp only [stp, stq]; done))
            | ((with_reducible apply ends_f); case h => first | rfl | (simp only [stp, stq]; done))
          exact ends_some (retq_ctt (ld_e (u8l p) [] [] [] [] _ _ _).2.1 (frz_e5 _ _ _ _))
        · have g4 : (!(eb nn nm == slB p j)) = true := by simpa using hb
          rw [if_neg (fun h => hb h.2)]
          have stq := (And.intro (f0) (And.intro (c1) (And.intro (cv) (And.intro (x2) (And.intro (l2) (And.intro (c8) (And.intro (e3) (And.intro (e4) (And.intro (q1) (And.intro (cs) (And.intro (be) (And.intro (al) (And.intro (se2) (And.intro (le2) (And.intro (frz_e) (And.intro (c2) (And.intro (g3) (And.intro (cc) (And.intro (cb) (And.intro (sn) (And.intro (g4) (And.intro (ze) (se1)))))))))))))))))))))))
          repeat first
            | ((with_reducible apply ends_bind); case h => first | (simp only [stp, stq]; first | done | rfl) | rfl)
            | ((with_reducible apply ends_t); case h => first | rfl | (simp only [stp, stq]; done))
            | ((with_reducible apply ends_f); case h => first | rfl | (simp only [stp, stq]; done))
          exact ends_some (retq_ctt (ld_e (u8l p) [] [] [] [] _ _ _).2.1 (frz_e5 _ _ _ _))
    · have hz := he.1 rfl
      rw [show rdE (slB p j) = (0, ⟨#[]⟩, 0) by unfold rdE; rw [if_pos hz]]
      have ze := z_e
      rw [zE0] at ze
      have se1 := fun n n' s s' r => (st_e (u8l p) [] [] [] [] n n' s s' r).1
      have stq := (And.intro (ze) (se1))
      repeat first
        | ((with_reducible apply ends_bind); case h => first | (simp only [stp, stq]; first | done | rfl) | rfl)
        | ((with_reducible apply ends_t); case h => first | rfl | (simp only [stp, stq]; done))
        | ((with_reducible apply ends_f); case h => first | rfl | (simp only [stp, stq]; done))
      exact ends_some (retq_ctt (ld_e (u8l p) [] [] [] [] _ _ _).2.1 (frz_e5 _ _ _ _))
  · have g2 : decide ((i : Int) < 13) = true := decide_eq_true (by omega)
    have e3 : IntKind.i64.wrap ((i : Int) + 1) = ((i + 1 : Nat) : Int) := by rw [wrap64]; omega
    have hlt : i < (slB p j).length := by omega
    have hs : (slB p j).take (i + 1) = (slB p j).take i ++ [(slB p j)[i]] := List.take_succ_eq_append_getElem hlt
    have hzs : zero (i + 1) = zero i ++ [0] := List.replicate_succ' ..
    cases e
    · skip
      have stq := (And.intro (g2) (e3))
      repeat first
        | ((with_reducible apply ends_bind); case h => first | (simp only [stp, stq]; first | done | rfl) | rfl)
        | ((with_reducible apply ends_t); case h => first | rfl | (simp only [stp, stq]; done))
        | ((with_reducible apply ends_f); case h => first | rfl | (simp only [stp, stq]; done))
      refine ends_some (.inl ⟨rfl, d, by omega, i + 1, false, _, _, _, _, _, by first | rfl | (rw [← e3]; rfl), u8l_keep _ _, ent_keep _ _ _, ?_, by omega⟩)
      constructor
      · intro h; simp at h
      · intro h
        rw [hs, hzs] at h
        exact he.2 (List.append_inj_left' h rfl)
    · have x1 := idx_b8 t8 (P := Try.prog) 0 (13 * j) 13 .i64 i (by omega)
      have l1 := ld_b8 sz8 ag8 [u8l p, ent 0 ⟨#[]⟩] 0 (13 * j + i) p rfl (by omega)
      have hpi : p[13 * j + i]'(by omega) = (slB p j)[i] := by
        have h : (slB p j)[i]? = p[13 * j + i]? := by
          unfold slB
          rw [List.getElem?_take, if_pos (by omega), List.getElem?_drop]
        rw [List.getElem?_eq_getElem hlt, List.getElem?_eq_getElem (by omega)] at h
        exact (Option.some.inj h).symm
      rw [hpi] at l1
      have ez := eq_z (slB p j)[i]
      have ht := he.1 rfl
      obtain ⟨q, hq⟩ : ∃ q, q = ((slB p j)[i] == 0) := ⟨_, rfl⟩
      rw [← hq] at ez
      have stq := (And.intro (g2) (And.intro (e3) (And.intro (x1) (And.intro (l1) (ez)))))
      repeat first
        | ((with_reducible apply ends_bind); case h => first | (simp only [stp, stq]; first | done | rfl) | rfl)
        | ((with_reducible apply ends_t); case h => first | rfl | (simp only [stp, stq]; done))
        | ((with_reducible apply ends_f); case h => first | rfl | (simp only [stp, stq]; done))
      refine ends_some (.inl ⟨rfl, d, by omega, i + 1, q, _, _, _, _, _, by first | rfl | (rw [← e3]; rfl), u8l_keep _ _, ent_keep _ _ _, ?_, by omega⟩)
      rw [hs, hzs, ht, hq]
      constructor
      · intro h
        rw [beq_iff_eq] at h
        rw [h]
      · intro h
        have := List.append_inj_right' h rfl
        simpa using this
theorem rAt_no {k : Nat} (hk : 10 ≤ k) (p : List UInt8) (hp : p.length = 54) (j : Int) (hj : j < 0 ∨ 3 < j) : cf (evFn cx0 ext0 k) 24 [.agg (u8l p), .v (.int .i64 j)] = some badAt := by
  obtain ⟨m, rfl⟩ : ∃ m, k = m + 2 := ⟨k - 2, by omega⟩
  have al := al_e
  have zE0 : zE = ent 0 ⟨#[]⟩ := rfl
  simp only [zE0] at al
  have ze := z_e
  rw [zE0] at ze
  have se1 := fun n n' s s' r => (st_e (u8l p) [] [] [] [] n n' s s' r).1
  unfold cf
  rw [E_r12_At]
  refine ends_cf (P := Try.prog) ?_
  unfold F_r12_At badAt
  by_cases h0 : j < 0
  · have g0 : decide (j < 0) = true := decide_eq_true h0
    have stq := (And.intro (box_agg) (And.intro (al) (And.intro (g0) (And.intro (ze) (se1)))))
    repeat first
      | ((with_reducible apply ends_bind); case h => first | (simp only [stp, stq]; first | done | rfl) | rfl)
      | ((with_reducible apply ends_t); case h => first | rfl | (simp only [stp, stq]; done))
      | ((with_reducible apply ends_f); case h => first | rfl | (simp only [stp, stq]; done))
    exact ends_some (retq_ctt (ld_e (u8l p) [] [] [] [] _ _ _).2.1 (frz_e5 _ _ _ _))
  · have g0 : decide (j < 0) = false := decide_eq_false h0
    have g1 : decide (j > 3) = true := decide_eq_true (by omega)
    have stq := (And.intro (box_agg) (And.intro (al) (And.intro (g0) (And.intro (g1) (And.intro (ze) (se1))))))
    repeat first
      | ((with_reducible apply ends_bind); case h => first | (simp only [stp, stq]; first | done | rfl) | rfl)
      | ((with_reducible apply ends_t); case h => first | rfl | (simp only [stp, stq]; done))
      | ((with_reducible apply ends_f); case h => first | rfl | (simp only [stp, stq]; done))
    exact ends_some (retq_ctt (ld_e (u8l p) [] [] [] [] _ _ _).2.1 (frz_e5 _ _ _ _))
end Go.Sy
