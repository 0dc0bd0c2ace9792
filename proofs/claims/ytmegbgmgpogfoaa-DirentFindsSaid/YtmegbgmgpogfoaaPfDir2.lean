/-
  Layer 12: slots of loads.
-/
import Derived.Test.YtmegbgmgpogfoaaPfDir
namespace Go.Sy
open Go.Proofs Go.Proofs.Ytmegbgmgpogfoaa Num

/-- a slot's number, its name -/
def nb (b : List UInt8) : Nat := le (b.take 2)
def nmB (b : List UInt8) : List UInt8 := (b.drop 3).take (min (3 + (b.getD 2 0).toNat) 13 - 3)
/-- a slot's entry, and its state -/
def rdE (b : List UInt8) : Int × ByteArray × Int := if b = zero 13 then (0, ⟨#[]⟩, 0) else if okE (nb b) (nmB b) = true ∧ eb (nb b) (nmB b) = b then (nb b, ⟨(nmB b).toArray⟩, 1) else (0, ⟨#[]⟩, 2)
theorem nb_lt (b : List UInt8) : nb b < 65536 := by
  unfold nb
  have h : ∀ l : List UInt8, l.length ≤ 2 → le l < 65536 := by
    intro l hl
    match l, hl with
    | [], _ => simp [le]
    | [a], _ => have := UInt8.toNat_lt a; simp [le]; omega
    | [a, c], _ => have := UInt8.toNat_lt a; have := UInt8.toNat_lt c; simp [le]; omega
  exact h _ (by rw [List.length_take]; omega)
theorem nm_len (b : List UInt8) (h : b.length = 13) : (nmB b).length = min (3 + (b.getD 2 0).toNat) 13 - 3 := by
  unfold nmB
  rw [List.length_take, List.length_drop, h]
  omega
theorem cv_str (bx : Bx) (k off n : Nat) (b : List UInt8) (hb : bx[k]? = some (u8l b)) (hn : off + n ≤ b.length) : convA Try.prog bx 28 9 (.bsl k off n 1) = some (.v (.string ⟨((b.drop off).take n).toArray⟩), bx) := by
  have h : convA Try.prog bx 28 9 (.bsl k off n 1) = if inA Try.prog 5 = some .u8 then (readA bx (.bsl k off n 1)).bind fun r => if r.2.length = n then (bytesA r.2).map fun l => (.v (.string ⟨l.toArray⟩), bx) else none else none := by kernel_rfl
  rw [h, if_pos (by kernel_rfl), rd_b hb, Option.bind_some]
  simp only
  rw [if_pos (by rw [u8l_len, List.length_take, List.length_drop]; omega), u8l_bytes]
  rfl
theorem cv_8 (bx : Bx) (x : UInt8) : convA Try.prog bx 5 3 (u8 x) = some (.v (.int .i64 (x.toNat : Int)), bx) := by
  have h : convA Try.prog bx 5 3 (u8 x) = some (.v (.int .i64 (IntKind.i64.wrap (x.toNat : Int))), bx) := by kernel_rfl
  have := UInt8.toNat_lt x
  have e : IntKind.i64.wrap (x.toNat : Int) = (x.toNat : Int) := by rw [wrap64]; omega
  rw [h, e]
theorem cv_n (bx : Bx) (n : Nat) (h : n < 65536) : convA Try.prog bx 55 3 (.v (.int .u16 n)) = some (.v (.int .i64 n), bx) := by
  have e : convA Try.prog bx 55 3 (.v (.int .u16 n)) = some (.v (.int .i64 (IntKind.i64.wrap n)), bx) := by kernel_rfl
  have w : IntKind.i64.wrap (n : Int) = n := by rw [wrap64]; omega
  rw [e, w]
def putE (n : Int) : Int := if n < 1 ∨ 65535 < n then 2 else 45
theorem putE_ne (n : Int) : (putE n != 0) = true := by
  unfold putE
  split <;> rfl
theorem read_ev {k : Nat} (hk : 40 ≤ k) (b : List UInt8) (hb : b.length = 13) : cf (evFn cx0 ext0 k) 31 [.agg (u8l b)] = some (.tup [.agg (ent (rdE b).1 (rdE b).2.1), .v (.int .i64 (rdE b).2.2)]) := by
  obtain ⟨m, rfl⟩ : ∃ m, k = m + 1 := ⟨k - 1, by omega⟩
  have zl : (zero 13).length = 13 := rfl
  have ld0 := fun r => ld_a h13 (P := Try.prog) (bx := u8l b :: r) (k := 0) (b := b) rfl hb
  have zb := z_a h13 (P := Try.prog)
  have eq0 := (eq_a h13 (P := Try.prog) (a := b) (b := zero 13) hb zl).1
  have se := fun n n' s s' r => (st_e (u8l b) [] [] [] [] n n' s s' r).1
  unfold cf
  rw [E_dirent_read]
  refine ends_cf (P := Try.prog) ?_
  unfold F_dirent_read
  by_cases hz : b = zero 13
  · have g0 : (b == zero 13) = true := by simp [hz]
    rw [show rdE b = (0, ⟨#[]⟩, 0) by unfold rdE; rw [if_pos hz]]
    have se0 := se 0 0 ⟨#[]⟩ ⟨#[]⟩ []
    have stq := (And.intro (box_agg) (And.intro (al_e) (And.intro (ld0) (And.intro (zb) (And.intro (eq0) (And.intro (g0) (And.intro (z_e) (se0))))))))
    repeat first
      | ((with_reducible apply ends_bind); case h => first | (simp only [stp, stq]; first | done | rfl) | rfl)
      | ((with_reducible apply ends_t); case h => first | rfl | (simp only [stp, stq]; done))
      | ((with_reducible apply ends_f); case h => first | rfl | (simp only [stp, stq]; done))
    exact ends_some (retq_ct (ld_e (u8l b) [] [] [] [] _ _ _).2.1 (frz_e5 _ _ _ _))
  have g0 : (b == zero 13) = false := by simpa using hz
  have hn := nb_lt b
  have q0 := sl_a h13 (P := Try.prog) (bx := [u8l b, zE]) (k := 0) (b := b) rfl hb
  have f0 : frz [u8l b, zE] true 6 (.bsl 0 0 13 1) = byt true b := frz_b8 true (b := b) (d := 4) rfl hb.symm
  have c1 : cf (evFn cx0 ext0 m) 37 [byt true b, .v (.int .i64 0)] = some (.tup [.v (.int .u16 (nb b : Nat)), .v (.int .i64 0)]) := by
    rw [Get16_ev (m := m) (by omega) b true 0 (by omega) (by omega)]
    unfold getV
    rw [if_neg (by omega)]
    rfl
  have cv := fun bx => cv_n bx (nb b) hn
  have x2 : indexAddrA Try.prog 24 (.bp 0 0) (.v (.int .i64 2)) = some (.bp 0 2) := ix_a h13 (P := Try.prog) 0 0 .i64 2 (by omega)
  have l2 : ∀ r, loadA Try.prog 5 (u8l b :: r) (.bp 0 2) = some (u8 (b.getD 2 0)) := by
    intro r
    rw [ld_b8 sz8 ag8 (u8l b :: r) 0 2 b rfl (by omega), List.getD_eq_getElem?_getD, List.getElem?_eq_getElem (by omega)]
    rfl
  have c8 := fun bx => cv_8 bx (b.getD 2 0)
  have hx := UInt8.toNat_lt (b.getD 2 0)
  have e1 : IntKind.i64.wrap (3 + ((b.getD 2 0).toNat : Int)) = ((3 + (b.getD 2 0).toNat : Nat) : Int) := by rw [wsm (by omega) (by omega)]; omega
  have e2 : min ((3 + (b.getD 2 0).toNat : Nat) : Int) 13 = ((min (3 + (b.getD 2 0).toNat) 13 : Nat) : Int) := by omega
  have q1 : sliceA Try.prog [u8l b, zE] 24 (.bp 0 0) (some (.v (.int .i64 3))) (some (.v (.int .i64 ((min (3 + (b.getD 2 0).toNat) 13 : Nat) : Int)))) none = some (.bsl 0 3 (min (3 + (b.getD 2 0).toNat) 13 - 3) 1) := sl_a2 h13 (P := Try.prog) (bx := [u8l b, zE]) (k := 0) (b := b) rfl hb .i64 .i64 3 (min (3 + (b.getD 2 0).toNat) 13) (by omega) (by omega)
  have cs := cv_str [u8l b, zE] 0 3 (min (3 + (b.getD 2 0).toNat) 13 - 3) b rfl (by omega)
  have hs : (b.drop 3).take (min (3 + (b.getD 2 0).toNat) 13 - 3) = nmB b := rfl
  rw [hs] at cs
  have be := b_e (nb b) ⟨(nmB b).toArray⟩
  have se2 := fun n n' s s' r => (st_e (u8l b) zE [] [] [] n n' s s' r).2.1
  have le2 := fun n s r => (ld_e (u8l b) zE [] [] [] n s r).2.2.1
  have c2 := Put_ev (k := m) (by omega) (nb b) ⟨(nmB b).toArray⟩
  have hd : (ByteArray.mk (nmB b).toArray).data.toList = nmB b := rfl
  rw [hd] at c2
  have a13 := al_a h13 (P := Try.prog)
  have hnm := nm_len b hb
  have rd : rdE b = if okE (nb b) (nmB b) = true ∧ eb (nb b) (nmB b) = b then ((nb b : Int), ⟨(nmB b).toArray⟩, 1) else (0, ⟨#[]⟩, 2) := by
    unfold rdE
    rw [if_neg hz]
  rw [rd]
  generalize nmB b = nm at *
  have zE0 : zE = ent 0 ⟨#[]⟩ := rfl
  have se0 := se 0 0 ⟨#[]⟩ ⟨#[]⟩
  have se1 := se 0 (nb b) ⟨#[]⟩ ⟨nm.toArray⟩
  cases ho : okE (nb b) nm
  · -- bad
    have hp : putV (nb b) nm = .tup [.agg (u8l (zero 13)), .v (.int .i64 (putE (nb b)))] := by unfold putV; rw [if_neg (by rw [ho]; simp)]; rfl
    rw [hp] at c2
    have g1 := putE_ne (nb b)
    rw [if_neg (fun h => absurd h.1 (by simp))]
    have s3 := st_a h13 (P := Try.prog) (bx := [u8l b, ent 0 ⟨#[]⟩, ent (nb b) ⟨nm.toArray⟩, u8l (zero 13)]) (k := 3) (b := zero 13) (c := zero 13) rfl zl zl
    simp only [List.set_cons_succ, List.set_cons_zero] at s3
    rw [zE0] at q0 f0 q1 cs
    simp only [zE0] at se2 le2
    have se2' := se2 0 (nb b) ⟨#[]⟩ ⟨nm.toArray⟩
    have al := al_e
    simp only [zE0] at al
    have stq := (And.intro (box_agg) (And.intro (al) (And.intro (ld0) (And.intro (zb) (And.intro (eq0) (And.intro (g0) (And.intro (q0) (And.intro (f0) (And.intro (c1) (And.intro (cv) (And.intro (x2) (And.intro (l2) (And.intro (c8) (And.intro (e1) (And.intro (e2) (And.intro (q1) (And.intro (cs) (And.intro (be) (And.intro (se2') (And.intro (le2) (And.intro (frz_e) (And.intro (c2) (And.intro (a13) (And.intro (s3) (And.intro (g1) (And.intro (z_e) (And.intro (zE0) (se0))))))))))))))))))))))))))))
    repeat first
      | ((with_reducible apply ends_bind); case h => first | (simp only [stp, stq]; first | done | rfl) | rfl)
      | ((with_reducible apply ends_t); case h => first | rfl | (simp only [stp, stq]; done))
      | ((with_reducible apply ends_f); case h => first | rfl | (simp only [stp, stq]; done))
    exact ends_some (retq_ct (ld_e (u8l b) [] [] [] [] _ _ _).2.1 (frz_e5 _ _ _ _))
  · have hp : putV (nb b) nm = .tup [.agg (u8l (eb (nb b) nm)), .v (.int .i64 0)] := by unfold putV; rw [if_pos ho, Int.toNat_natCast]
    rw [hp] at c2
    have hel : (eb (nb b) nm).length = 13 := eb_len _ _ (by omega)
    have g1 : ((0 : Int) != 0) = false := rfl
    generalize eb (nb b) nm = c at *
    have s3 := st_a h13 (P := Try.prog) (bx := [u8l b, ent 0 ⟨#[]⟩, ent (nb b) ⟨nm.toArray⟩, u8l (zero 13)]) (k := 3) (b := zero 13) (c := c) rfl zl hel
    simp only [List.set_cons_succ, List.set_cons_zero] at s3
    have l3 := ld_a h13 (P := Try.prog) (bx := [u8l b, ent 0 ⟨#[]⟩, ent (nb b) ⟨nm.toArray⟩, u8l c]) (k := 3) (b := c) rfl hel
    have ne := (eq_a h13 (P := Try.prog) (a := c) (b := b) hel hb).2
    rw [zE0] at q0 f0 q1 cs
    simp only [zE0] at se2 le2
    have se2' := se2 0 (nb b) ⟨#[]⟩ ⟨nm.toArray⟩
    have al := al_e
    simp only [zE0] at al
    by_cases hcb : c = b
    · have g2 : (!(c == b)) = false := by simp [hcb]
      rw [if_pos ⟨rfl, hcb⟩]
      have stq := (And.intro (box_agg) (And.intro (al) (And.intro (ld0) (And.intro (zb) (And.intro (eq0) (And.intro (g0) (And.intro (q0) (And.intro (f0) (And.intro (c1) (And.intro (cv) (And.intro (x2) (And.intro (l2) (And.intro (c8) (And.intro (e1) (And.intro (e2) (And.intro (q1) (And.intro (cs) (And.intro (be) (And.intro (se2') (And.intro (le2) (And.intro (frz_e) (And.intro (c2) (And.intro (a13) (And.intro (s3) (And.intro (g1) (And.intro (l3) (And.intro (ne) (And.intro (g2) (And.intro (zE0) (se1))))))))))))))))))))))))))))))
      repeat first
        | ((with_reducible apply ends_bind); case h => first | (simp only [stp, stq]; first | done | rfl) | rfl)
        | ((with_reducible apply ends_t); case h => first | rfl | (simp only [stp, stq]; done))
        | ((with_reducible apply ends_f); case h => first | rfl | (simp only [stp, stq]; done))
      exact ends_some (retq_ct (ld_e (u8l b) [] [] [] [] _ _ _).2.1 (frz_e5 _ _ _ _))
    · have g2 : (!(c == b)) = true := by simpa using hcb
      rw [if_neg (fun h => hcb h.2)]
      have stq := (And.intro (box_agg) (And.intro (al) (And.intro (ld0) (And.intro (zb) (And.intro (eq0) (And.intro (g0) (And.intro (q0) (And.intro (f0) (And.intro (c1) (And.intro (cv) (And.intro (x2) (And.intro (l2) (And.intro (c8) (And.intro (e1) (And.intro (e2) (And.intro (q1) (And.intro (cs) (And.intro (be) (And.intro (se2') (And.intro (le2) (And.intro (frz_e) (And.intro (c2) (And.intro (a13) (And.intro (s3) (And.intro (g1) (And.intro (l3) (And.intro (ne) (And.intro (g2) (And.intro (z_e) (And.intro (zE0) (se0)))))))))))))))))))))))))))))))
      repeat first
        | ((with_reducible apply ends_bind); case h => first | (simp only [stp, stq]; first | done | rfl) | rfl)
        | ((with_reducible apply ends_t); case h => first | rfl | (simp only [stp, stq]; done))
        | ((with_reducible apply ends_f); case h => first | rfl | (simp only [stp, stq]; done))
      exact ends_some (retq_ct (ld_e (u8l b) [] [] [] [] _ _ _).2.1 (frz_e5 _ _ _ _))
end Go.Sy
