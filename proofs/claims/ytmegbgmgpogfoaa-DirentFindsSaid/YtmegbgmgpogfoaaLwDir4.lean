/-
  Layer 12's law DirentFinds as the reader reads it.
-/
import Derived.Test.YtmegbgmgpogfoaaPfDirR5
namespace Go.Sy
open Go.Proofs Go.Proofs.Ytmegbgmgpogfoaa Num

theorem len_l (n : Nat) (l : List AV) : lenA Try.prog 45 (.sl n l false) = some (.v (.int .i64 (n : Int))) := by kernel_rfl
theorem idx_l (l : List (Int × ByteArray)) (i : Nat) (hi : i < l.length) : indexAddrA Try.prog 45 (.sl l.length (flatE l) false) (.v (.int .i64 i)) = some (.ip (.v (.int .i64 l[i].1) :: .v (.string l[i].2) :: flatE (l.drop (i + 1))) false) := by
  have h : indexAddrA Try.prog 45 (.sl l.length (flatE l) false) (.v (.int .i64 i)) = (idxI l.length 0 2 (.v (.int .i64 i))).bind fun o => if l.length * 2 ≤ (flatE l).length then some (.ip ((flatE l).drop o) false) else none := by kernel_rfl
  have e : idxI l.length 0 2 (.v (.int .i64 i)) = some (i * 2) := by
    show (if 0 ≤ (i : Int) ∧ (i : Int) < l.length then some (0 + (i : Int).toNat * 2) else none) = _
    rw [if_pos ⟨by omega, by omega⟩, Int.toNat_natCast, Nat.zero_add]
  rw [h, e, Option.bind_some, if_pos (by rw [flatE_len]; omega), flatE_at l i hi]
theorem ld_ipe (bx : Bx) (n : Int) (s : ByteArray) (r : List AV) : loadA Try.prog 23 bx (.ip (.v (.int .i64 n) :: .v (.string s) :: r) false) = some (.agg (ent n s)) := by kernel_rfl
theorem fa_ipe (a b : AV) (r : List AV) : fieldAddrA Try.prog 23 (.ip (a :: b :: r) false) 1 = some (.ip (b :: r) false) := by kernel_rfl
theorem ld_ips (bx : Bx) (s : ByteArray) (r : List AV) : loadA Try.prog 9 bx (.ip (.v (.string s) :: r) false) = some (.v (.string s)) := by kernel_rfl
set_option maxRecDepth 100000 in
theorem finds_ev (p : List UInt8) (hp : p.length = 54) (nm : ByteArray) : cf (evFn cx0 ext0 1000) 6 [.agg (u8l p), .v (.string nm)] = some (.v (.bool true)) := by
  have hw := works_at 999 (by omega)
  have lp := fun r => ld_a hL (P := Try.prog) (bx := u8l p :: r) (k := 0) (b := p) rfl hp
  have c1 := All_ev (k := 999) (by omega) p hp
  have c2 := rAll_ev (k := 999) (by omega) p hp
  have hle := ents_le p 4
  generalize ents p 4 = L at *
  have ll := len_l L.length (flatE L)
  have z0 : ((L.length : Int) != L.length) = false := by simp
  unfold cf
  rw [E_l12_DirentFinds]
  refine ends_cf (P := Try.prog) ?_
  unfold F_l12_DirentFinds
  have stq := (And.intro (box_agg) (And.intro (lp) (And.intro (frz_agg) (And.intro (c1) (And.intro (c2) (And.intro (ll) (z0)))))))
  repeat first
    | ((with_reducible apply ends_bind); case h => first | (simp only [stp, stq]; first | done | rfl) | rfl)
    | ((with_reducible apply ends_t); case h => first | rfl | (simp only [stp, stq]; done))
    | ((with_reducible apply ends_f); case h => first | rfl | (simp only [stp, stq]; done))
  refine ends_loop (fun d st => ∃ (i : Nat) (y16 y4 y0 : AV) (b0 : List AV), st = ⟨[(7, .v (.int .i64 i)), (16, y16), (6, .sl L.length (flatE L) false), (5, .sl L.length (flatE L) false), (4, y4), (2, .bp 0 0), (0, y0), (1, .v (.string nm))], [b0]⟩ ∧
    b0 = u8l p ∧ i + d = L.length) L.length (by omega) ⟨0, _, _, _, _, rfl, rfl, by omega⟩ ?_
  rintro d st ⟨i, y16, y4, y0, b0, rfl, rfl, hd⟩
  refine L_l12_DirentFinds_0_lit ?_
  unfold B_l12_DirentFinds_0
  rcases d with _ | d
  · have g2 : decide ((i : Int) < (L.length : Int)) = false := decide_eq_false (by omega)
    have stq := (And.intro (ll) (g2))
    repeat first
      | ((with_reducible apply ends_bind); case h => first | (simp only [stp, stq]; first | done | rfl) | rfl)
      | ((with_reducible apply ends_t); case h => first | rfl | (simp only [stp, stq]; done))
      | ((with_reducible apply ends_f); case h => first | rfl | (simp only [stp, stq]; done))
    refine ends_some (.inr (.inl ⟨0, rfl, X_l12_DirentFinds_0_0_lit ?_⟩))
    unfold X_l12_DirentFinds_0_0
    have d1 := Find_ev (k := 999) (by omega) p hp nm
    have d2 := rFind_ev (k := 999) (by omega) p hp nm
    have d3 := Room_ev (k := 999) (by omega) p hp
    have d4 := rRoom_ev (k := 999) (by omega) p hp
    have z1 := ieq
    have stq := (And.intro (lp) (And.intro (frz_agg) (And.intro (d1) (And.intro (d2) (And.intro (d3) (And.intro (d4) (And.intro (z1) (hw))))))))
    repeat first
      | ((with_reducible apply ends_bind); case h => first | (simp only [stp, stq]; first | done | rfl) | rfl)
      | ((with_reducible apply ends_t); case h => first | rfl | (simp only [stp, stq]; done))
      | ((with_reducible apply ends_f); case h => first | rfl | (simp only [stp, stq]; done))
    exact ends_some ⟨.inl rfl, _, rfl, rfl⟩
  · have g2 : decide ((i : Int) < (L.length : Int)) = true := decide_eq_true (by omega)
    have hi : i < L.length := by omega
    have x1 := idx_l L i hi
    obtain ⟨n, s, r, hn⟩ : ∃ (n : Int) (s : ByteArray) (r : List AV), indexAddrA Try.prog 45 (.sl L.length (flatE L) false) (.v (.int .i64 i)) = some (.ip (.v (.int .i64 n) :: .v (.string s) :: r) false) := ⟨_, _, _, x1⟩
    clear x1
    have d1 := Find_ev (k := 999) (by omega) p hp s
    have d2 := rFind_ev (k := 999) (by omega) p hp s
    have z1 : ∀ x : Int, (x != x) = false := fun x => by simp
    have ne := ne_self n s
    have l1 := fun bx => ld_ipe bx n s r
    have f1 := fa_ipe (.v (.int .i64 n)) (.v (.string s)) r
    have l2 := fun bx => ld_ips bx s r
    have e3 : IntKind.i64.wrap ((i : Int) + 1) = ((i + 1 : Nat) : Int) := by rw [wrap64]; omega
    have stq := (And.intro (ll) (And.intro (g2) (And.intro (hn) (And.intro (l1) (And.intro (ne) (And.intro (lp) (And.intro (frz_agg) (And.intro (f1) (And.intro (l2) (And.intro (d1) (And.intro (d2) (And.intro (z1) (e3)))))))))))))
    repeat first
      | ((with_reducible apply ends_bind); case h => first | (simp only [stp, stq]; first | done | rfl) | rfl)
      | ((with_reducible apply ends_t); case h => first | rfl | (simp only [stp, stq]; done))
      | ((with_reducible apply ends_f); case h => first | rfl | (simp only [stp, stq]; done))
    exact ends_some (.inl ⟨rfl, d, by omega, i + 1, _, _, _, _, by first | rfl | (rw [← e3]; rfl), u8l_keep _ _, by omega⟩)
end Go.Sy
