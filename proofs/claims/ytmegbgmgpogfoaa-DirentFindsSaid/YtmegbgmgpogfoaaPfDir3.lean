/-
  Layer 12: entries in loads.
-/
import Derived.Test.YtmegbgmgpogfoaaPfDir2
namespace Go.Sy
open Go.Proofs Go.Proofs.Ytmegbgmgpogfoaa Num

theorem slot_ev (m : Nat) (j : Nat) (hj : j < 4) : cf (evFn cx0 ext0 (m + 1)) 30 [.v (.int .i64 j)] = some (.v (.bool true)) := by
  have g0 : decide ((0 : Int) ≤ (j : Int)) = true := decide_eq_true (by omega)
  have g1 : decide ((j : Int) < 4) = true := decide_eq_true (by omega)
  unfold cf
  rw [E_dirent_slot]
  refine ends_cf (P := Try.prog) ?_
  unfold F_dirent_slot
  have stq := (And.intro (g0) (g1))
  repeat first
    | ((with_reducible apply ends_bind); case h => first | (simp only [stp, stq]; first | done | rfl) | rfl)
    | ((with_reducible apply ends_t); case h => first | rfl | (simp only [stp, stq]; done))
    | ((with_reducible apply ends_f); case h => first | rfl | (simp only [stp, stq]; done))
  exact ends_some ⟨.inl rfl, _, rfl, rfl⟩
/-- the bytes of a slot -/
def slB (p : List UInt8) (j : Nat) : List UInt8 := (p.drop (13 * j)).take 13
theorem slB_len (p : List UInt8) (hp : p.length = 54) (j : Nat) (hj : j < 4) : (slB p j).length = 13 := by
  unfold slB
  rw [List.length_take, List.length_drop]
  omega
def atV (b : List UInt8) : AV := .tup [.agg (ent (rdE b).1 (rdE b).2.1), .v (.int .i64 (rdE b).2.2), .v (.int .i64 0)]
theorem At_ev {k : Nat} (hk : 50 ≤ k) (p : List UInt8) (hp : p.length = 54) (j : Nat) (hj : j < 4) : cf (evFn cx0 ext0 k) 17 [.agg (u8l p), .v (.int .i64 j)] = some (atV (slB p j)) := by
  obtain ⟨m, rfl⟩ : ∃ m, k = m + 2 := ⟨k - 2, by omega⟩
  have c1 : cf (evFn cx0 ext0 (m + 1)) 30 [.v (.int .i64 j)] = _ := slot_ev m j hj
  have c2 := read_ev (k := m + 1) (by omega) (slB p j) (slB_len p hp j hj)
  have e1 : IntKind.i64.wrap (13 * (j : Int)) = ((13 * j : Nat) : Int) := by rw [wsm (by omega) (by omega)]; omega
  have al := al_e
  have zE0 : zE = ent 0 ⟨#[]⟩ := rfl
  simp only [zE0] at al
  have s1 := sl_alo hL (P := Try.prog) (bx := [u8l p, ent 0 ⟨#[]⟩]) (k := 0) (b := p) rfl hp .i64 (13 * j) (by omega)
  have a1 := ap_b h13 (P := Try.prog) 0 (13 * j) (54 - 13 * j) (by omega)
  have l1 := ld_ao h13 (P := Try.prog) (bx := [u8l p, ent 0 ⟨#[]⟩]) (k := 0) (off := 13 * j) (b := p) rfl (by omega)
  rw [show (p.drop (13 * j)).take 13 = slB p j from rfl] at l1
  unfold atV
  generalize rdE (slB p j) = w at *
  obtain ⟨n, s, st⟩ := w
  simp only at c2 ⊢
  have se1 := (st_e (u8l p) [] [] [] [] 0 n ⟨#[]⟩ s [ent n s]).1
  have se2 := (st_e (u8l p) (ent 0 ⟨#[]⟩) [] [] [] 0 n ⟨#[]⟩ s []).2.1
  have le2 := (ld_e (u8l p) (ent 0 ⟨#[]⟩) [] [] [] n s []).2.2.1
  unfold cf
  rw [E_dirent_At]
  refine ends_cf (P := Try.prog) ?_
  unfold F_dirent_At
  have stq := (And.intro (box_agg) (And.intro (al) (And.intro (c1) (And.intro (n_tf) (And.intro (e1) (And.intro (s1) (And.intro (a1) (And.intro (l1) (And.intro (frz_agg) (And.intro (c2) (And.intro (se2) (And.intro (le2) (se1)))))))))))))
  repeat first
    | ((with_reducible apply ends_bind); case h => first | (simp only [stp, stq]; first | done | rfl) | rfl)
    | ((with_reducible apply ends_t); case h => first | rfl | (simp only [stp, stq]; done))
    | ((with_reducible apply ends_f); case h => first | rfl | (simp only [stp, stq]; done))
  exact ends_some (retq_ctt (ld_e (u8l p) [] [] [] [] _ _ _).2.1 (frz_e5 _ _ _ _))

/-- a load with bytes in a slot -/
def wdL (p : List UInt8) (j : Nat) (c : List UInt8) : List UInt8 := p.take (13 * j) ++ c ++ p.drop (13 * j + 13)
theorem wdL_len (p : List UInt8) (hp : p.length = 54) (j : Nat) (hj : j < 4) (c : List UInt8) (hc : c.length = 13) : (wdL p j c).length = 54 := by
  unfold wdL
  rw [List.length_append, List.length_append, List.length_take, List.length_drop, hc]
  omega
theorem wd_get (p : List UInt8) (hp : p.length = 54) (j : Nat) (hj : j < 4) (c : List UInt8) (hc : c.length = 13) (i : Nat) : (wdL p j c)[i]? = if i < 13 * j then p[i]? else if i < 13 * j + 13 then c[i - 13 * j]? else p[i]? := by
  unfold wdL
  rw [List.append_assoc, List.getElem?_append, List.length_take, Nat.min_eq_left (by omega)]
  split
  · rw [List.getElem?_take, if_pos (by assumption)]
  · rw [List.getElem?_append, hc]
    by_cases h : i < 13 * j + 13
    · rw [if_pos (by omega), if_pos h]
    · rw [if_neg (by omega), if_neg h, List.getElem?_drop]
      congr 1
      omega
theorem wd_at (p : List UInt8) (hp : p.length = 54) (j : Nat) (hj : j < 4) (c : List UInt8) (hc : c.length = 13) (i : Nat) (hi : i < 4) : slB (wdL p j c) i = if i = j then c else slB p i := by
  unfold slB
  apply List.ext_getElem?
  intro t
  rw [List.getElem?_take]
  by_cases ht : t < 13
  · rw [if_pos ht, List.getElem?_drop, wd_get p hp j hj c hc]
    by_cases h : i = j
    · subst h
      rw [if_neg (by omega), if_pos (by omega), if_pos rfl]
      congr 1
      omega
    · rw [if_neg h, List.getElem?_take, if_pos ht, List.getElem?_drop]
      split
      · rfl
      · rw [if_neg (by omega)]
  · rw [if_neg ht]
    split
    · rw [List.getElem?_eq_none (by omega)]
    · rw [List.getElem?_take, if_neg ht]
theorem With_ev {k : Nat} (hk : 50 ≤ k) (p : List UInt8) (hp : p.length = 54) (j : Nat) (hj : j < 4) (n : Int) (s : ByteArray) : cf (evFn cx0 ext0 k) 15 [.agg (u8l p), .v (.int .i64 j), .agg (ent n s)] =
    some (if okE n s.data.toList = true then .tup [.agg (u8l (wdL p j (eb n.toNat s.data.toList))), .v (.int .i64 0)] else .tup [.agg (u8l (zero 54)), .v (.int .i64 (putE n))]) := by
  obtain ⟨m, rfl⟩ : ∃ m, k = m + 2 := ⟨k - 2, by omega⟩
  have c1 : cf (evFn cx0 ext0 (m + 1)) 30 [.v (.int .i64 j)] = _ := slot_ev m j hj
  have c2 := Put_ev (k := m + 1) (by omega) n s
  have e1 : IntKind.i64.wrap (13 * (j : Int)) = ((13 * j : Nat) : Int) := by rw [wsm (by omega) (by omega)]; omega
  have aL := al_a hL (P := Try.prog)
  have a13 := al_a h13 (P := Try.prog)
  have zl : (zero 54).length = 54 := rfl
  have zl3 : (zero 13).length = 13 := rfl
  have zb := z_a hL (P := Try.prog)
  have le1 := fun r => (ld_e (u8l p) [] [] [] [] n s r).2.1
  unfold cf
  rw [E_dirent_With]
  refine ends_cf (P := Try.prog) ?_
  unfold F_dirent_With
  cases ho : okE n s.data.toList
  · rw [if_neg (by simp)]
    have hpv : putV n s.data.toList = .tup [.agg (u8l (zero 13)), .v (.int .i64 (putE n))] := by unfold putV; rw [if_neg (by rw [ho]; simp)]; rfl
    rw [hpv] at c2
    have g1 := putE_ne n
    have s3 := st_a h13 (P := Try.prog) (bx := [u8l p, ent n s, u8l (zero 54), u8l (zero 13)]) (k := 3) (b := zero 13) (c := zero 13) rfl zl3 zl3
    have s2 := st_a hL (P := Try.prog) (bx := [u8l p, ent n s, u8l (zero 54), u8l (zero 13)]) (k := 2) (b := zero 54) (c := zero 54) rfl zl zl
    simp only [List.set_cons_succ, List.set_cons_zero] at s3 s2
    have stq := (And.intro (box_agg) (And.intro (box_e) (And.intro (aL) (And.intro (c1) (And.intro (n_tf) (And.intro (le1) (And.intro (frz_e) (And.intro (c2) (And.intro (a13) (And.intro (s3) (And.intro (g1) (And.intro (zb) (s2)))))))))))))
    repeat first
      | ((with_reducible apply ends_bind); case h => first | (simp only [stp, stq]; first | done | rfl) | rfl)
      | ((with_reducible apply ends_t); case h => first | rfl | (simp only [stp, stq]; done))
      | ((with_reducible apply ends_f); case h => first | rfl | (simp only [stp, stq]; done))
    exact ends_some (retq_ct (ld_a hL (b := zero 54) rfl zl) (frz_agg _ _ _ _))
  · rw [if_pos rfl]
    have hpv : putV n s.data.toList = .tup [.agg (u8l (eb n.toNat s.data.toList)), .v (.int .i64 0)] := by unfold putV; rw [if_pos ho]
    rw [hpv] at c2
    have hnm : s.data.toList.length ≤ 10 := by
      unfold okE at ho
      simp only [Bool.and_eq_true] at ho
      exact (name_len ho.2).2
    have hel := eb_len n.toNat s.data.toList hnm
    have hw := wdL_len p hp j hj _ hel
    have hwd : p.take (13 * j) ++ eb n.toNat s.data.toList ++ p.drop (13 * j + 13) = wdL p j (eb n.toNat s.data.toList) := rfl
    have g1 : ((0 : Int) != 0) = false := rfl
    generalize eb n.toNat s.data.toList = c at *
    have s3 := st_a h13 (P := Try.prog) (bx := [u8l p, ent n s, u8l (zero 54), u8l (zero 13)]) (k := 3) (b := zero 13) (c := c) rfl zl3 hel
    have q1 := sl_alo hL (P := Try.prog) (bx := [u8l p, ent n s, u8l (zero 54), u8l c]) (k := 0) (b := p) rfl hp .i64 (13 * j) (by omega)
    have q2 := sl_a h13 (P := Try.prog) (bx := [u8l p, ent n s, u8l (zero 54), u8l c]) (k := 3) (b := c) rfl hel
    have y1 : readA [u8l p, ent n s, u8l (zero 54), u8l c] (.bsl 3 0 13 1) = some (c.length, u8l c) := by
      rw [rd_b (b := c) rfl, hel, List.drop_zero, List.take_of_length_le (by omega)]
    have cp := cp_b t8 (bx := [u8l p, ent n s, u8l (zero 54), u8l c]) (k := 0) (off := 13 * j) (n := 54 - 13 * j) (b := p) (d := c) (y := .bsl 3 0 13 1) rfl (by omega) y1 (by omega)
    rw [hel, hwd] at cp
    have l0 := ld_a hL (P := Try.prog) (bx := [u8l (wdL p j c), ent n s, u8l (zero 54), u8l c]) (k := 0) (b := wdL p j c) rfl hw
    have s2 := st_a hL (P := Try.prog) (bx := [u8l (wdL p j c), ent n s, u8l (zero 54), u8l c]) (k := 2) (b := zero 54) (c := wdL p j c) rfl zl hw
    simp only [List.set_cons_succ, List.set_cons_zero] at s3 s2 cp
    have stq := (And.intro (box_agg) (And.intro (box_e) (And.intro (aL) (And.intro (c1) (And.intro (n_tf) (And.intro (le1) (And.intro (frz_e) (And.intro (c2) (And.intro (a13) (And.intro (s3) (And.intro (g1) (And.intro (e1) (And.intro (q1) (And.intro (q2) (And.intro (cp) (And.intro (l0) (s2)))))))))))))))))
    repeat first
      | ((with_reducible apply ends_bind); case h => first | (simp only [stp, stq]; first | done | rfl) | rfl)
      | ((with_reducible apply ends_t); case h => first | rfl | (simp only [stp, stq]; done))
      | ((with_reducible apply ends_f); case h => first | rfl | (simp only [stp, stq]; done))
    exact ends_some (retq_ct (ld_a hL (b := wdL p j c) rfl hw) (frz_agg _ _ _ _))
theorem zeros8 (n : Nat) : zerosA Try.prog 5 n = some (u8l (zero n)) := by
  have h : zerosA Try.prog 5 n = some (List.replicate n [.v (.int .u8 0)]).flatten := by kernel_rfl
  rw [h]
  congr 1
  induction n with
  | zero => rfl
  | succ n ih => rw [List.replicate_succ, List.flatten_cons, ih (by kernel_rfl)]; rfl
theorem clr_b (bx : Bx) (k off n : Nat) (b : List UInt8) (hb : bx[k]? = some (u8l b)) (hn : off + n ≤ b.length) : clrA Try.prog 28 bx (.bsl k off n 1) = some (.v (.tuple #[]), bx.set k (u8l (b.take off ++ zero n ++ b.drop (off + n)))) := by
  have h : clrA Try.prog 28 bx (.bsl k off n 1) = ((zerosA Try.prog 5 n).bind fun z => (bx[k]?).bind fun l => if off + n * 1 ≤ l.length then some (bx.set k (storeL l off z)) else none).map fun b => (.v (.tuple #[]), b) := by kernel_rfl
  rw [h, zeros8, hb, Option.bind_some, Option.bind_some, if_pos (by rw [u8l_len]; omega), Option.map_some, storeL_eq _ _ _ (by rw [u8l_len, u8l_len, List.length_replicate]; omega)]
  simp only [u8l_len, u8l_take, u8l_drop, u8l_app, List.length_replicate]
theorem Without_ev {k : Nat} (hk : 50 ≤ k) (p : List UInt8) (hp : p.length = 54) (j : Nat) (hj : j < 4) : cf (evFn cx0 ext0 k) 16 [.agg (u8l p), .v (.int .i64 j)] = some (.tup [.agg (u8l (wdL p j (zero 13))), .v (.int .i64 0)]) := by
  obtain ⟨m, rfl⟩ : ∃ m, k = m + 2 := ⟨k - 2, by omega⟩
  have c1 : cf (evFn cx0 ext0 (m + 1)) 30 [.v (.int .i64 j)] = _ := slot_ev m j hj
  have e1 : IntKind.i64.wrap (13 * (j : Int)) = ((13 * j : Nat) : Int) := by rw [wsm (by omega) (by omega)]; omega
  have e2 : IntKind.i64.wrap (((13 * j : Nat) : Int) + 13) = ((13 * j + 13 : Nat) : Int) := by rw [wsm (by omega) (by omega)]; omega
  have aL := al_a hL (P := Try.prog)
  have zl : (zero 54).length = 54 := rfl
  have hw := wdL_len p hp j hj (zero 13) rfl
  have q1 := sl_a2 hL (P := Try.prog) (bx := [u8l p, u8l (zero 54)]) (k := 0) (b := p) rfl hp .i64 .i64 (13 * j) (13 * j + 13) (by omega) (by omega)
  rw [show 13 * j + 13 - 13 * j = 13 by omega] at q1
  have cl := clr_b [u8l p, u8l (zero 54)] 0 (13 * j) 13 p rfl (by omega)
  rw [show p.take (13 * j) ++ zero 13 ++ p.drop (13 * j + 13) = wdL p j (zero 13) from rfl] at cl
  have l0 := ld_a hL (P := Try.prog) (bx := [u8l (wdL p j (zero 13)), u8l (zero 54)]) (k := 0) (b := wdL p j (zero 13)) rfl hw
  have s2 := st_a hL (P := Try.prog) (bx := [u8l (wdL p j (zero 13)), u8l (zero 54)]) (k := 1) (b := zero 54) (c := wdL p j (zero 13)) rfl zl hw
  simp only [List.set_cons_succ, List.set_cons_zero] at s2 cl
  unfold cf
  rw [E_dirent_Without]
  refine ends_cf (P := Try.prog) ?_
  unfold F_dirent_Without
  have stq := (And.intro (box_agg) (And.intro (aL) (And.intro (c1) (And.intro (n_tf) (And.intro (e1) (And.intro (e2) (And.intro (q1) (And.intro (cl) (And.intro (l0) (s2))))))))))
  repeat first
    | ((with_reducible apply ends_bind); case h => first | (simp only [stp, stq]; first | done | rfl) | rfl)
    | ((with_reducible apply ends_t); case h => first | rfl | (simp only [stp, stq]; done))
    | ((with_reducible apply ends_f); case h => first | rfl | (simp only [stp, stq]; done))
  exact ends_some (retq_ct (ld_a hL (b := wdL p j (zero 13)) rfl hw) (frz_agg _ _ _ _))
end Go.Sy
