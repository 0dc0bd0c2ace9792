/-
  Arrays of bytes, whatever their bytes, for the reader's steps.
-/
import Derived.Test.YtmkdhgigghgieaaSyStep
namespace Go.Sy

/-- is it an array of so many bytes? -/
def arr8 (P : Program) (t : TypeId) (n : Nat) : Bool :=
  agA P t == some true && szA P t == some n && (match arA P t with | some (m, e) => m == n && szA P e == some 1 && agA P e == some false | none => false) &&
  (match zcA P t with | some z => z.length == n && z.all (fun x => match x with | .v (.int .u8 0) => true | _ => false) | none => false) &&
  (match ckA P 6 t with | some l => l.length == n && l.all (fun c => decide (c = .int .u8)) | none => false) && !P.eqGuardType P.depth t &&
  (match plA P t with | some _ => false | none => true) && decide (0 < n)

structure Arr8 (P : Program) (t : TypeId) (n : Nat) (e : TypeId) : Prop where
  ag : agA P t = some true
  sz : szA P t = some n
  ar : arA P t = some (n, e)
  se : szA P e = some 1
  ae : agA P e = some false
  zc : zcA P t = some (u8l (List.replicate n 0))
  ck : ckA P 6 t = some (List.replicate n (.int .u8))
  eg : P.eqGuardType P.depth t = false
  pl : plA P t = none
  pos : 0 < n

theorem arr8_spec {P : Program} {t : TypeId} {n : Nat} (h : arr8 P t n = true) : ∃ e, Arr8 P t n e := by
  simp only [arr8, Bool.and_eq_true, beq_iff_eq, Bool.not_eq_true', decide_eq_true_eq] at h
  obtain ⟨⟨⟨⟨⟨⟨⟨h1, h2⟩, h3⟩, h4⟩, h5⟩, h6⟩, h7⟩, h8⟩ := h
  split at h3
  case h_2 => cases h3
  rename_i m e hm
  simp only [Bool.and_eq_true, beq_iff_eq] at h3
  obtain ⟨⟨rfl, h31⟩, h32⟩ := h3
  split at h4
  case h_2 => cases h4
  rename_i z hz
  simp only [Bool.and_eq_true, beq_iff_eq] at h4
  split at h5
  case h_2 => cases h5
  rename_i l hl
  simp only [Bool.and_eq_true, beq_iff_eq, List.all_eq_true, decide_eq_true_eq] at h5
  split at h7
  case h_1 => cases h7
  rename_i hp
  refine ⟨e, h1, h2, hm, h31, h32, ?_, ?_, h6, hp, h8⟩
  · rw [hz]
    congr 1
    have hall := List.all_eq_true.1 h4.2
    refine List.ext_getElem (by simp [u8l, h4.1]) fun i hi hi2 => ?_
    have := hall _ (List.getElem_mem hi)
    simp only [u8l, List.getElem_map, List.getElem_replicate]
    split at this
    · rename_i hx; rw [hx]; rfl
    · cases this
  · rw [hl]
    congr 1
    refine List.ext_getElem (by simp [h5.1]) fun i hi hi2 => ?_
    rw [List.getElem_replicate]
    exact h5.2 _ (List.getElem_mem hi)

theorem storeL_eq (l : List AV) : ∀ (xs : List AV) (off : Nat), off + xs.length ≤ l.length → storeL l off xs = l.take off ++ xs ++ l.drop (off + xs.length) := by
  intro xs
  induction xs generalizing l with
  | nil => intro off h; simp [storeL]
  | cons x xs ih =>
    intro off h
    rw [List.length_cons] at h
    unfold storeL
    rw [ih (l.set off x) (off + 1) (by rw [List.length_set]; omega)]
    have h1 : (l.set off x).take (off + 1) = l.take off ++ [x] := by
      rw [List.take_succ_eq_append_getElem (by rw [List.length_set]; omega), List.getElem_set_self, List.take_set_of_le (Nat.le_refl off)]
    have h2 : (l.set off x).drop (off + 1 + xs.length) = l.drop (off + (xs.length + 1)) := by
      rw [List.drop_set_of_lt (by omega)]
      congr 1
      omega
    rw [h1, h2, List.length_cons]
    simp

theorem box_agg (bx : Bx) (l : List AV) : boxA bx (.agg l) = some (.bp bx.length 0, bx ++ [l]) := rfl
theorem al_a {P : Program} {t : TypeId} {n : Nat} (h : arr8 P t n = true) (bx : Bx) : allocA P bx t = some (.bp bx.length 0, bx ++ [u8l (List.replicate n 0)]) := by
  obtain ⟨e, A⟩ := arr8_spec h
  unfold allocA
  rw [A.zc]
  rfl
theorem z_a {P : Program} {t : TypeId} {n : Nat} (h : arr8 P t n = true) : buildA P t [] = some (.agg (u8l (List.replicate n 0))) := by
  obtain ⟨e, A⟩ := arr8_spec h
  unfold buildA
  simp only [A.zc, A.pl, A.ar, A.se, Option.bind_some, fillA, Option.map_some]
theorem ld_a {P : Program} {t : TypeId} {n : Nat} (h : arr8 P t n = true) {bx : Bx} {k : Nat} {b : List UInt8} (hb : bx[k]? = some (u8l b)) (hn : b.length = n) : loadA P t bx (.bp k 0) = some (.agg (u8l b)) := by
  obtain ⟨e, A⟩ := arr8_spec h
  unfold loadA partA
  simp only [hb, Option.bind_some, A.sz, A.ag, u8l_len, hn, Nat.zero_add, Nat.le_refl, if_true, List.drop_zero, u8l_take]
  rw [List.take_of_length_le (by omega)]
/-- through a slice that is read -/
theorem ld_ip {P : Program} {t : TypeId} {n : Nat} (h : arr8 P t n = true) {bx : Bx} {b : List UInt8} (hn : n ≤ b.length) (f : Bool) : loadA P t bx (.ip (u8l b) f) = some (.agg (u8l (b.take n))) := by
  obtain ⟨e, A⟩ := arr8_spec h
  unfold loadA partA
  simp only [A.sz, A.ag, u8l_len, Nat.zero_add, hn, if_true, List.drop_zero, u8l_take]
/-- out of a longer box -/
theorem ld_ao {P : Program} {t : TypeId} {n : Nat} (h : arr8 P t n = true) {bx : Bx} {k off : Nat} {b : List UInt8} (hb : bx[k]? = some (u8l b)) (hn : off + n ≤ b.length) : loadA P t bx (.bp k off) = some (.agg (u8l ((b.drop off).take n))) := by
  obtain ⟨e, A⟩ := arr8_spec h
  unfold loadA partA
  simp only [hb, Option.bind_some, A.sz, A.ag, u8l_len, hn, if_true, u8l_take, u8l_drop]
theorem st_a {P : Program} {t : TypeId} {n : Nat} (h : arr8 P t n = true) {bx : Bx} {k : Nat} {b c : List UInt8} (hb : bx[k]? = some (u8l b)) (hn : b.length = n) (hc : c.length = n) :
    stA P t bx (.bp k 0) (.agg (u8l c)) = some (.v undef, bx.set k (u8l c)) := by
  obtain ⟨e, A⟩ := arr8_spec h
  have hs : storeA P t bx (.bp k 0) (.agg (u8l c)) = some (bx.set k (u8l c)) := by
    unfold storeA
    simp only [hb, Option.bind_some, A.sz]
    rw [if_pos (by refine ⟨rfl, ?_, ?_⟩ <;> simp [AV.cells, u8l_len, hn, hc])]
    show some (bx.set k (storeL (u8l b) 0 (u8l c))) = _
    rw [storeL_eq _ _ _ (by simp [u8l_len]; omega)]
    rw [u8l_len, List.drop_of_length_le (by rw [u8l_len]; omega)]
    simp
  unfold stA
  rw [hs]
  rfl
theorem sl_a {P : Program} {t : TypeId} {n : Nat} (h : arr8 P t n = true) {bx : Bx} {k : Nat} {b : List UInt8} (hb : bx[k]? = some (u8l b)) (hn : b.length = n) : sliceA P bx t (.bp k 0) none none none = some (.bsl k 0 n 1) := by
  obtain ⟨e, A⟩ := arr8_spec h
  unfold sliceA
  simp only [A.ar, A.se, hb, Option.bind_some, u8l_len, hn, Nat.zero_add, Nat.mul_one, Nat.le_refl, hiA, loA]
  simp
theorem sl_alo {P : Program} {t : TypeId} {n : Nat} (h : arr8 P t n = true) {bx : Bx} {k : Nat} {b : List UInt8} (hb : bx[k]? = some (u8l b)) (hn : b.length = n) (q : IntKind) (lo : Nat) (hl : lo ≤ n) :
    sliceA P bx t (.bp k 0) (some (.v (.int q lo))) none none = some (.bsl k lo (n - lo) 1) := by
  obtain ⟨e, A⟩ := arr8_spec h
  unfold sliceA
  simp only [A.ar, A.se, hb, Option.bind_some, u8l_len, hn, Nat.zero_add, Nat.mul_one, Nat.le_refl, hiA, loA, bndA]
  simp only [if_pos (show (0 : Int) ≤ (lo : Int) ∧ (lo : Int) ≤ (n : Int) from ⟨by omega, by omega⟩)]
  simp
theorem sl_ahi {P : Program} {t : TypeId} {n : Nat} (h : arr8 P t n = true) {bx : Bx} {k : Nat} {b : List UInt8} (hb : bx[k]? = some (u8l b)) (hn : b.length = n) (q : IntKind) (hi : Nat) (hl : hi ≤ n) :
    sliceA P bx t (.bp k 0) none (some (.v (.int q hi))) none = some (.bsl k 0 hi 1) := by
  obtain ⟨e, A⟩ := arr8_spec h
  unfold sliceA
  simp only [A.ar, A.se, hb, Option.bind_some, u8l_len, hn, Nat.zero_add, Nat.mul_one, Nat.le_refl, hiA, loA, bndA]
  simp only [if_pos (show (0 : Int) ≤ (hi : Int) ∧ (hi : Int) ≤ (n : Int) from ⟨by omega, by omega⟩)]
  simp
theorem sl_a2 {P : Program} {t : TypeId} {n : Nat} (h : arr8 P t n = true) {bx : Bx} {k : Nat} {b : List UInt8} (hb : bx[k]? = some (u8l b)) (hn : b.length = n) (q q' : IntKind) (lo hi : Nat) (h1 : lo ≤ hi) (hl : hi ≤ n) :
    sliceA P bx t (.bp k 0) (some (.v (.int q lo))) (some (.v (.int q' hi))) none = some (.bsl k lo (hi - lo) 1) := by
  obtain ⟨e, A⟩ := arr8_spec h
  unfold sliceA
  simp only [A.ar, A.se, hb, Option.bind_some, u8l_len, hn, Nat.zero_add, Nat.mul_one, Nat.le_refl, hiA, loA, bndA]
  simp only [if_pos (show (0 : Int) ≤ (hi : Int) ∧ (hi : Int) ≤ (n : Int) from ⟨by omega, by omega⟩), Option.bind_some, Int.toNat_natCast, if_pos (show (0 : Int) ≤ (lo : Int) ∧ (lo : Int) ≤ (hi : Int) from ⟨by omega, by omega⟩)]
  simp
theorem ix_a {P : Program} {t : TypeId} {n : Nat} (h : arr8 P t n = true) (k off : Nat) (q : IntKind) (i : Nat) (hi : i < n) : indexAddrA P t (.bp k off) (.v (.int q i)) = some (.bp k (off + i)) := by
  obtain ⟨e, A⟩ := arr8_spec h
  unfold indexAddrA
  simp only [A.ar, A.se, Option.bind_some, idxI]
  rw [if_pos ⟨by omega, by omega⟩]
  simp

theorem eqL_u8 : ∀ (a b : List UInt8), a.length = b.length → eqL (u8l a) (u8l b) = some (a == b)
  | [], [], _ => rfl
  | x :: a, y :: b, h => by
    have ih := eqL_u8 a b (by simpa using h)
    show (eq1 (u8 x) (u8 y)).bind (fun q => (eqL (u8l a) (u8l b)).map fun c => q && c) = _
    rw [ih]
    show some (((x.toNat : Int) == (y.toNat : Int)) && (a == b)) = some ((x :: a) == (y :: b))
    rw [List.cons_beq_cons]
    congr 2
    rw [Bool.eq_iff_iff]
    simp only [beq_iff_eq]
    constructor
    · intro h
      exact UInt8.toNat_inj.1 (by omega)
    · rintro rfl
      rfl
  | [], _ :: _, h => by simp at h
  | _ :: _, [], h => by simp at h
theorem fits_u8 (a : List UInt8) : ((List.replicate a.length (CK.int .u8)).zip (u8l a)).all (fun p => p.1.fits p.2) = true := by
  rw [List.all_eq_true]
  intro p hp
  obtain ⟨i, hi⟩ := List.getElem?_of_mem hp
  rw [List.getElem?_zip_eq_some] at hi
  obtain ⟨h1, h2⟩ := hi
  rw [u8l_get] at h2
  obtain ⟨x, _, hx⟩ := Option.map_eq_some_iff.1 h2
  have : p.1 = .int .u8 := by
    have := List.mem_of_getElem? h1
    exact (List.mem_replicate.1 this).2
  rw [this, ← hx]
  rfl
theorem eq_a {P : Program} {t : TypeId} {n : Nat} (h : arr8 P t n = true) {a b : List UInt8} (ha : a.length = n) (hb : b.length = n) : binA P .eql t (.agg (u8l a)) (.agg (u8l b)) = some (.v (.bool (a == b))) ∧ binA P .neq t (.agg (u8l a)) (.agg (u8l b)) = some (.v (.bool (!(a == b)))) := by
  obtain ⟨e, A⟩ := arr8_spec h
  have he : eqA P t (u8l a) (u8l b) = some (a == b) := by
    unfold eqA
    rw [A.eg, A.ag, A.ck]
    simp only [Bool.false_or, bne_self_eq_false, Bool.false_eq_true, if_false, Option.bind_some]
    rw [if_pos ⟨by simp [u8l_len, ha], by simp [u8l_len, hb], by rw [← ha]; exact fits_u8 a, by rw [← hb]; exact fits_u8 b⟩, eqL_u8 a b (by omega)]
  unfold binA
  simp only [he, Option.map_some]
  exact ⟨trivial, trivial⟩

theorem rd_b {bx : Bx} {k off n : Nat} {b : List UInt8} (hb : bx[k]? = some (u8l b)) : readA bx (.bsl k off n 1) = some (n, u8l ((b.drop off).take n)) := by
  unfold readA
  simp only [hb, Option.map_some, Nat.mul_one, u8l_drop, u8l_take]
theorem cp_b {P : Program} {t : TypeId} (ht : sl8 P t = true) {bx : Bx} {k off n : Nat} {b d : List UInt8} {y : AV} (hb : bx[k]? = some (u8l b)) (hn : off + n ≤ b.length) (hy : readA bx y = some (d.length, u8l d)) (hd : d.length ≤ n) :
    copyA P bx t (.bsl k off n 1) y = some (.v (.int .i64 d.length), bx.set k (u8l (b.take off ++ d ++ b.drop (off + d.length)))) := by
  obtain ⟨h, e, z, he, hs, -⟩ := sl8_spec ht
  unfold copyA
  simp only [h, if_true, he, hs, Option.bind_some, hy, hb, Nat.mul_one]
  rw [if_pos ⟨by rw [u8l_len]; omega, by rw [u8l_len]⟩, Nat.min_eq_left hd, u8l_take, List.take_length, storeL_eq _ _ _ (by rw [u8l_len, u8l_len]; omega)]
  simp only [u8l_len, u8l_take, u8l_drop, u8l_app]
  rw [show min (d.length : Int) (n : Int) = d.length by omega]
theorem frz_bo {bx : Bx} {k d off n : Nat} {b : List UInt8} (f : Bool) (h : bx[k]? = some (u8l b)) (hn : off + n ≤ b.length) : frz bx f (d + 2) (.bsl k off n 1) = byt f ((b.drop off).take n) := by
  show (match bx[k]? with | some l => AV.sl n (((l.drop off).take (n * 1)).map (frz bx f (d + 1))) f | none => .junk) = _
  rw [h]
  simp only [Nat.mul_one, u8l_drop, u8l_take, u8l_frz]
  unfold byt
  rw [List.length_take, List.length_drop, Nat.min_eq_left (by omega)]
theorem frz_agg (bx : Bx) (f : Bool) (d : Nat) (b : List UInt8) : frz bx f (d + 2) (.agg (u8l b)) = .agg (u8l b) := by
  show AV.agg ((u8l b).map (frz bx f (d + 1))) = _
  rw [u8l_frz]
theorem ap_b {P : Program} {t : TypeId} {n : Nat} (h : arr8 P t n = true) (k off m : Nat) (hm : n ≤ m) : arrPtrA P t (.bsl k off m 1) = some (.bp k off) := by
  obtain ⟨e, A⟩ := arr8_spec h
  unfold arrPtrA
  simp only [A.ar, A.se, Option.bind_some]
  rw [if_pos (by simp [A.pos, hm])]
theorem ap_s {P : Program} {t : TypeId} {n : Nat} (h : arr8 P t n = true) (l : List AV) (f : Bool) (m : Nat) (hm : n ≤ m) : arrPtrA P t (.sl m l f) = some (.ip l f) := by
  obtain ⟨e, A⟩ := arr8_spec h
  unfold arrPtrA
  simp only [A.ar, Option.bind_some]
  rw [if_pos (by simp [A.pos, hm])]
/-- arrays that are read, and stored, whatever boxes there are -/
theorem lds {P : Program} {t : TypeId} {n : Nat} (h : arr8 P t n = true) :
    (∀ (b : List UInt8) (r : Bx), b.length = n → loadA P t (u8l b :: r) (.bp 0 0) = some (.agg (u8l b))) ∧
    (∀ (x0 : List AV) (b : List UInt8) (r : Bx), b.length = n → loadA P t (x0 :: u8l b :: r) (.bp 1 0) = some (.agg (u8l b))) ∧
    (∀ (x0 x1 : List AV) (b : List UInt8) (r : Bx), b.length = n → loadA P t (x0 :: x1 :: u8l b :: r) (.bp 2 0) = some (.agg (u8l b))) ∧
    (∀ (x0 x1 x2 : List AV) (b : List UInt8) (r : Bx), b.length = n → loadA P t (x0 :: x1 :: x2 :: u8l b :: r) (.bp 3 0) = some (.agg (u8l b))) ∧
    (∀ (x0 x1 x2 x3 : List AV) (b : List UInt8) (r : Bx), b.length = n → loadA P t (x0 :: x1 :: x2 :: x3 :: u8l b :: r) (.bp 4 0) = some (.agg (u8l b))) ∧
    (∀ (x0 x1 x2 x3 x4 : List AV) (b : List UInt8) (r : Bx), b.length = n → loadA P t (x0 :: x1 :: x2 :: x3 :: x4 :: u8l b :: r) (.bp 5 0) = some (.agg (u8l b))) ∧
    (∀ (x0 x1 x2 x3 x4 x5 : List AV) (b : List UInt8) (r : Bx), b.length = n → loadA P t (x0 :: x1 :: x2 :: x3 :: x4 :: x5 :: u8l b :: r) (.bp 6 0) = some (.agg (u8l b))) ∧
    (∀ (x0 x1 x2 x3 x4 x5 x6 : List AV) (b : List UInt8) (r : Bx), b.length = n → loadA P t (x0 :: x1 :: x2 :: x3 :: x4 :: x5 :: x6 :: u8l b :: r) (.bp 7 0) = some (.agg (u8l b))) :=
  ⟨fun b r hn => ld_a h (k := 0) rfl hn, fun x0 b r hn => ld_a h (k := 1) rfl hn, fun x0 x1 b r hn => ld_a h (k := 2) rfl hn, fun x0 x1 x2 b r hn => ld_a h (k := 3) rfl hn, fun x0 x1 x2 x3 b r hn => ld_a h (k := 4) rfl hn, fun x0 x1 x2 x3 x4 b r hn => ld_a h (k := 5) rfl hn, fun x0 x1 x2 x3 x4 x5 b r hn => ld_a h (k := 6) rfl hn, fun x0 x1 x2 x3 x4 x5 x6 b r hn => ld_a h (k := 7) rfl hn⟩
theorem sts {P : Program} {t : TypeId} {n : Nat} (h : arr8 P t n = true) :
    (∀ (b c : List UInt8) (r : Bx), b.length = n → c.length = n → stA P t (u8l b :: r) (.bp 0 0) (.agg (u8l c)) = some (.v undef, u8l c :: r)) ∧
    (∀ (x0 : List AV) (b c : List UInt8) (r : Bx), b.length = n → c.length = n → stA P t (x0 :: u8l b :: r) (.bp 1 0) (.agg (u8l c)) = some (.v undef, x0 :: u8l c :: r)) ∧
    (∀ (x0 x1 : List AV) (b c : List UInt8) (r : Bx), b.length = n → c.length = n → stA P t (x0 :: x1 :: u8l b :: r) (.bp 2 0) (.agg (u8l c)) = some (.v undef, x0 :: x1 :: u8l c :: r)) ∧
    (∀ (x0 x1 x2 : List AV) (b c : List UInt8) (r : Bx), b.length = n → c.length = n → stA P t (x0 :: x1 :: x2 :: u8l b :: r) (.bp 3 0) (.agg (u8l c)) = some (.v undef, x0 :: x1 :: x2 :: u8l c :: r)) ∧
    (∀ (x0 x1 x2 x3 : List AV) (b c : List UInt8) (r : Bx), b.length = n → c.length = n → stA P t (x0 :: x1 :: x2 :: x3 :: u8l b :: r) (.bp 4 0) (.agg (u8l c)) = some (.v undef, x0 :: x1 :: x2 :: x3 :: u8l c :: r)) ∧
    (∀ (x0 x1 x2 x3 x4 : List AV) (b c : List UInt8) (r : Bx), b.length = n → c.length = n → stA P t (x0 :: x1 :: x2 :: x3 :: x4 :: u8l b :: r) (.bp 5 0) (.agg (u8l c)) = some (.v undef, x0 :: x1 :: x2 :: x3 :: x4 :: u8l c :: r)) ∧
    (∀ (x0 x1 x2 x3 x4 x5 : List AV) (b c : List UInt8) (r : Bx), b.length = n → c.length = n → stA P t (x0 :: x1 :: x2 :: x3 :: x4 :: x5 :: u8l b :: r) (.bp 6 0) (.agg (u8l c)) = some (.v undef, x0 :: x1 :: x2 :: x3 :: x4 :: x5 :: u8l c :: r)) ∧
    (∀ (x0 x1 x2 x3 x4 x5 x6 : List AV) (b c : List UInt8) (r : Bx), b.length = n → c.length = n → stA P t (x0 :: x1 :: x2 :: x3 :: x4 :: x5 :: x6 :: u8l b :: r) (.bp 7 0) (.agg (u8l c)) = some (.v undef, x0 :: x1 :: x2 :: x3 :: x4 :: x5 :: x6 :: u8l c :: r)) :=
  ⟨fun b c r hn hc => st_a h (k := 0) (b := b) rfl hn hc, fun x0 b c r hn hc => st_a h (k := 1) (b := b) rfl hn hc, fun x0 x1 b c r hn hc => st_a h (k := 2) (b := b) rfl hn hc, fun x0 x1 x2 b c r hn hc => st_a h (k := 3) (b := b) rfl hn hc, fun x0 x1 x2 x3 b c r hn hc => st_a h (k := 4) (b := b) rfl hn hc, fun x0 x1 x2 x3 x4 b c r hn hc => st_a h (k := 5) (b := b) rfl hn hc, fun x0 x1 x2 x3 x4 x5 b c r hn hc => st_a h (k := 6) (b := b) rfl hn hc, fun x0 x1 x2 x3 x4 x5 x6 b c r hn hc => st_a h (k := 7) (b := b) rfl hn hc⟩
end Go.Sy
