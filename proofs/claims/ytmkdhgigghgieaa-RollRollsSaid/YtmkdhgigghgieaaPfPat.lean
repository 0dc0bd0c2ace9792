/-
  Layer 15: patches: what the reader takes for them, few of them.
-/
import Derived.Test.YtmkdhgigghgieaaPfRoll2
import Derived.Test.YtmkdhgigghgieaaPfBase
namespace Go.Sy
open Go.Proofs Num Crc Seal

structure Pt where
  id : Int
  atS : Int
  off : Int
  data : List UInt8
  kind : Int
  needs : List Int
  own : Int
  child : Int
  wr : Bool
def il (l : List Int) : List AV := l.map fun x => .v (.int .i64 x)
theorem il_len (l : List Int) : (il l).length = l.length := by simp [il]
theorem il_keep (p : Nat → Bool) (l : List Int) : (il l).map (AV.keep p) = il l := by simp [il, AV.keep]
theorem il_frz (bx : Bx) (f : Bool) (d : Nat) (l : List Int) : (il l).map (frz bx f (d + 1)) = il l := by simp [il, frz]
theorem il_take (l : List Int) (n : Nat) : (il l).take n = il (l.take n) := by simp [il]
abbrev isl (f : Bool) (l : List Int) : AV := .sl l.length (il l) f
/-- a patch's cells -/
def pt (f : Bool) (p : Pt) : List AV := [.v (.int .i64 p.id), .v (.int .i64 p.atS), .v (.int .i64 p.off), byt f p.data, .v (.int .i64 p.kind), isl f p.needs, .v (.int .i64 p.own), .v (.int .i64 p.child), .v (.bool p.wr)]
theorem pt_len (f : Bool) (p : Pt) : (pt f p).length = 9 := rfl
theorem pt_keep (q : Nat → Bool) (f : Bool) (p : Pt) : (pt f p).map (AV.keep q) = pt f p := rfl
theorem pt_frz (bx : Bx) (d : Nat) (p : Pt) (f : Bool) : (pt f p).map (frz bx true (d + 1)) = pt f p := by cases f <;> rfl
theorem pt_frz0 (bx : Bx) (d : Nat) (p : Pt) : (pt false p).map (frz bx false (d + 1)) = pt false p := rfl
def flatP (f : Bool) (l : List Pt) : List AV := l.flatMap (pt f)
theorem flatP_len (f : Bool) (l : List Pt) : (flatP f l).length = l.length * 9 := by
  induction l with
  | nil => rfl
  | cons a l ih => unfold flatP at *; rw [List.flatMap_cons, List.length_append, ih, List.length_cons, pt_len]; omega
theorem flatP_app (f : Bool) (l : List Pt) (a : Pt) : flatP f (l ++ [a]) = flatP f l ++ pt f a := by
  unfold flatP
  rw [List.flatMap_append, List.flatMap_singleton]
theorem flatP_keep (p : Nat → Bool) (f : Bool) (l : List Pt) : (flatP f l).map (AV.keep p) = flatP f l := by
  induction l with
  | nil => rfl
  | cons a l ih => unfold flatP at *; rw [List.flatMap_cons, List.map_append, ih, pt_keep]
theorem flatP_frz (bx : Bx) (d : Nat) (l : List Pt) (f : Bool) : (flatP f l).map (frz bx true (d + 1)) = flatP f l := by
  induction l with
  | nil => rfl
  | cons a l ih => unfold flatP at *; rw [List.flatMap_cons, List.map_append, ih, pt_frz]
theorem flatP_frz0 (bx : Bx) (d : Nat) (l : List Pt) : (flatP false l).map (frz bx false (d + 1)) = flatP false l := by
  induction l with
  | nil => rfl
  | cons a l ih => unfold flatP at *; rw [List.flatMap_cons, List.map_append, ih, pt_frz0]
theorem flatP_drop (f : Bool) (l : List Pt) (k : Nat) : (flatP f l).drop (k * 9) = flatP f (l.drop k) := by
  induction l generalizing k with
  | nil => simp [flatP]
  | cons a l ih =>
    rcases k with _ | k
    · rfl
    · have := ih k
      unfold flatP at *
      rw [List.flatMap_cons, show (k + 1) * 9 = 9 + k * 9 by omega, ← List.drop_drop]
      exact this
theorem flatP_take (f : Bool) (l : List Pt) (k : Nat) : (flatP f l).take (k * 9) = flatP f (l.take k) := by
  induction l generalizing k with
  | nil => simp [flatP]
  | cons a l ih =>
    rcases k with _ | k
    · simp [flatP]
    · have := ih k
      unfold flatP at *
      rw [List.flatMap_cons, List.take_succ_cons, List.flatMap_cons, show (k + 1) * 9 = (pt f a).length + k * 9 by rw [pt_len]; omega, List.take_length_add_append, this]
theorem flatP_at (f : Bool) (l : List Pt) (i : Nat) (hi : i < l.length) : (flatP f l).drop (i * 9) = pt f l[i] ++ flatP f (l.drop (i + 1)) := by
  rw [flatP_drop, List.drop_eq_getElem_cons hi]
  rfl
abbrev psl (f : Bool) (l : List Pt) : AV := .sl l.length (flatP f l) f
theorem frz_psl (bx : Bx) (f : Bool) (l : List Pt) : frz bx true 6 (psl f l) = psl f l := by cases f <;> rfl
theorem len_p (f : Bool) (l : List Pt) : lenA Try.prog 24 (psl f l) = some (.v (.int .i64 (l.length : Int))) := by kernel_rfl
theorem idx_p (f : Bool) (l : List Pt) (i : Nat) (hi : i < l.length) : indexAddrA Try.prog 24 (psl f l) (.v (.int .i64 i)) = some (.ip (pt f l[i] ++ flatP f (l.drop (i + 1))) f) := by
  have h : indexAddrA Try.prog 24 (psl f l) (.v (.int .i64 i)) = (idxI l.length 0 9 (.v (.int .i64 i))).bind fun o => if l.length * 9 ≤ (flatP f l).length then some (.ip ((flatP f l).drop o) f) else none := by kernel_rfl
  have e : idxI l.length 0 9 (.v (.int .i64 i)) = some (i * 9) := by
    show (if 0 ≤ (i : Int) ∧ (i : Int) < l.length then some (0 + (i : Int).toNat * 9) else none) = _
    rw [if_pos ⟨by omega, by omega⟩, Int.toNat_natCast, Nat.zero_add]
  rw [h, e, Option.bind_some, if_pos (by rw [flatP_len]; omega), flatP_at f l i hi]
theorem ld_ipp (bx : Bx) (f : Bool) (p : Pt) (r : List AV) : loadA Try.prog 34 bx (.ip (pt f p ++ r) f) = some (.agg (pt f p)) := by kernel_rfl
theorem slc_pt (bx : Bx) (f : Bool) (l : List Pt) (k : Nat) (hk : k ≤ l.length) : sliceA Try.prog bx 24 (psl f l) none (some (.v (.int .i64 k))) none = some (psl f (l.take k)) ∧ sliceA Try.prog bx 24 (psl f l) (some (.v (.int .i64 k))) none none = some (psl f (l.drop k)) := by
  have h1 : sliceA Try.prog bx 24 (psl f l) none (some (.v (.int .i64 k))) none = ((if 0 ≤ (k : Int) ∧ (k : Int) ≤ l.length then some (k : Int).toNat else none).bind fun h => (some 0).bind fun l0 => some (.sl (h - l0) (((flatP f l).drop (l0 * 9)).take ((h - l0) * 9)) f)) := by kernel_rfl
  have h2 : sliceA Try.prog bx 24 (psl f l) (some (.v (.int .i64 k))) none none = ((some l.length).bind fun h => (if 0 ≤ (k : Int) ∧ (k : Int) ≤ h then some (k : Int).toNat else none).bind fun l0 => some (.sl (h - l0) (((flatP f l).drop (l0 * 9)).take ((h - l0) * 9)) f)) := by kernel_rfl
  constructor
  · rw [h1, if_pos ⟨by omega, by omega⟩, Option.bind_some, Option.bind_some, Int.toNat_natCast, Nat.zero_mul, List.drop_zero, Nat.sub_zero, flatP_take]
    unfold psl
    rw [List.length_take, Nat.min_eq_left hk]
  · rw [h2, Option.bind_some, if_pos ⟨by omega, by omega⟩, Option.bind_some, Int.toNat_natCast, flatP_drop]
    unfold psl
    rw [List.length_drop, List.take_of_length_le (by rw [flatP_len, List.length_drop]; omega)]
abbrev psg (g : Bool) (l : List Pt) : AV := .sl l.length (flatP false l) g
theorem len_g (g : Bool) (l : List Pt) : lenA Try.prog 24 (psg g l) = some (.v (.int .i64 (l.length : Int))) := by kernel_rfl
theorem idx_g (g : Bool) (l : List Pt) (i : Nat) (hi : i < l.length) : indexAddrA Try.prog 24 (psg g l) (.v (.int .i64 i)) = some (.ip (pt false l[i] ++ flatP false (l.drop (i + 1))) g) := by
  have h : indexAddrA Try.prog 24 (psg g l) (.v (.int .i64 i)) = (idxI l.length 0 9 (.v (.int .i64 i))).bind fun o => if l.length * 9 ≤ (flatP false l).length then some (.ip ((flatP false l).drop o) g) else none := by kernel_rfl
  have e : idxI l.length 0 9 (.v (.int .i64 i)) = some (i * 9) := by
    show (if 0 ≤ (i : Int) ∧ (i : Int) < l.length then some (0 + (i : Int).toNat * 9) else none) = _
    rw [if_pos ⟨by omega, by omega⟩, Int.toNat_natCast, Nat.zero_add]
  rw [h, e, Option.bind_some, if_pos (by rw [flatP_len]; omega), flatP_at false l i hi]
theorem ld_g (bx : Bx) (g : Bool) (p : Pt) (r : List AV) : loadA Try.prog 34 bx (.ip (pt false p ++ r) g) = some (.agg (pt false p)) := by kernel_rfl
theorem frz_psg (bx : Bx) (g : Bool) (l : List Pt) : frz bx true 6 (psg g l) = psg g l := by cases g <;> rfl
/-! ## few patches -/
def few1 (p : Pt) : Pt := { p with data := p.data.take 70, needs := p.needs.take 6 }
theorem ti : sl1 Try.prog 32 = true := by kernel_rfl
theorem ints_ev (m : Nat) (f : Bool) (l : List Int) (hl : l.length * 8 ≤ 2 ^ 47) : cf (evFn cx0 ext0 (m + 1)) 19 [isl f l] = some (isl false l) := by
  have h1 : isSl Try.prog 32 = true ∧ elA Try.prog 32 = some 3 ∧ szA Try.prog 3 = some 1 ∧ byA Try.prog 3 = some 8 ∧ zcA Try.prog 3 = some [.v (.int .i64 0)] := ⟨by kernel_rfl, by kernel_rfl, by kernel_rfl, by kernel_rfl, by kernel_rfl⟩
  have b0 : ∀ bx, buildSliceA Try.prog bx 32 0 [] = some (.bsl bx.length 0 0 1, bx ++ [[]]) := fun bx => by kernel_rfl
  have a0 : appA Try.prog 0 [[], []] 32 (.bsl 1 0 0 1) (isl f l) = some (.bsl 1 0 l.length 1, AV.keep (· != 1), [[], il l]) := by
    unfold appA
    have rd : readA [[], []] (isl f l) = some (l.length, il l) := rfl
    simp only [h1.1, if_true, h1.2.1, h1.2.2.1, h1.2.2.2.1, h1.2.2.2.2, Option.bind_some, rd]
    rw [if_pos ⟨by rw [il_len]; omega, by omega, rfl, by omega, by omega, by omega⟩]
    have g : ([[], []] : Bx)[1]? = some [] := rfl
    simp only [g, Option.bind_some]
    rw [if_pos ⟨trivial, by omega, by simp, .inl trivial, by omega⟩]
    simp only [Nat.zero_add, List.nil_append, il_keep, ite_self]
    rfl
  unfold cf
  rw [E_base_Ints]
  refine ends_cf (P := Try.prog) ?_
  unfold F_base_Ints
  have stq := (And.intro (b0) (a0))
  repeat first
    | ((with_reducible apply ends_bind); case h => first | (simp only [stp, stq]; first | done | rfl) | rfl)
    | ((with_reducible apply ends_t); case h => first | rfl | (simp only [stp, stq]; done))
    | ((with_reducible apply ends_f); case h => first | rfl | (simp only [stp, stq]; done))
  refine ends_some ⟨.inl rfl, _, rfl, ?_⟩
  show AV.sl l.length ((((il l).drop 0).take (l.length * 1)).map (frz _ false 5)) false = _
  rw [List.drop_zero, List.take_of_length_le (by rw [il_len]; omega), il_frz]
theorem slc_i (bx : Bx) (f : Bool) (l : List Int) (c : Nat) : sliceA Try.prog bx 32 (isl f l) none (some (.v (.int .i64 (min (l.length : Int) (c : Int))))) none = some (isl f (l.take c)) := by
  have h1 : sliceA Try.prog bx 32 (isl f l) none (some (.v (.int .i64 (min (l.length : Int) (c : Int))))) none = ((if 0 ≤ min (l.length : Int) (c : Int) ∧ min (l.length : Int) (c : Int) ≤ l.length then some (min (l.length : Int) (c : Int)).toNat else none).bind fun h => (some 0).bind fun l0 => some (.sl (h - l0) (((il l).drop (l0 * 1)).take ((h - l0) * 1)) f)) := by kernel_rfl
  rw [h1, if_pos ⟨by omega, by omega⟩, Option.bind_some, Option.bind_some, Nat.zero_mul, List.drop_zero, Nat.sub_zero, Nat.mul_one, il_take]
  have e : (min (l.length : Int) (c : Int)).toNat = min l.length c := by omega
  rw [e]
  unfold isl
  rw [List.length_take, Nat.min_comm c]
  congr 2
  rw [List.take_eq_take_iff.2 (show min (min l.length c) l.length = min c l.length by omega)]
theorem len_i (f : Bool) (l : List Int) : lenA Try.prog 32 (isl f l) = some (.v (.int .i64 (l.length : Int))) := by kernel_rfl
theorem fa_pt (j : Nat) : fieldAddrA Try.prog 34 (.bp j 0) 3 = some (.bp j 3) ∧ fieldAddrA Try.prog 34 (.bp j 0) 5 = some (.bp j 5) := ⟨by kernel_rfl, by kernel_rfl⟩
/-- cells of a patch, whatever its slices -/
def px (p : Pt) (x y : AV) : List AV := [.v (.int .i64 p.id), .v (.int .i64 p.atS), .v (.int .i64 p.off), x, .v (.int .i64 p.kind), y, .v (.int .i64 p.own), .v (.int .i64 p.child), .v (.bool p.wr)]
theorem box_px (bx : Bx) (f : Bool) (p : Pt) : boxA bx (.agg (pt f p)) = some (.bp bx.length 0, bx ++ [px p (byt f p.data) (isl f p.needs)]) := rfl
theorem ld_px (p : Pt) (x y : AV) (r : Bx) : loadA Try.prog 31 (px p x y :: r) (.bp 0 3) = some x ∧ loadA Try.prog 32 (px p x y :: r) (.bp 0 5) = some y ∧ loadA Try.prog 34 (px p x y :: r) (.bp 0 0) = some (.agg (px p x y)) := ⟨by kernel_rfl, by kernel_rfl, by kernel_rfl⟩
theorem st_px (p : Pt) (x y : AV) (f : Bool) (b : List UInt8) (l : List Int) (r : Bx) : stA Try.prog 31 (px p x y :: r) (.bp 0 3) (byt f b) = some (.v undef, px p (byt f b) y :: r) ∧ stA Try.prog 32 (px p x y :: r) (.bp 0 5) (isl f l) = some (.v undef, px p x (isl f l) :: r) := ⟨by kernel_rfl, by kernel_rfl⟩
theorem st_pz (A : List AV) (p : Pt) (b : List UInt8) (l : List Int) (r : Bx) : stA Try.prog 34 (A :: pz :: r) (.bp 1 0) (.agg (px p (byt false b) (isl false l))) = some (.v undef, A :: px p (byt false b) (isl false l) :: r) := by kernel_rfl
theorem Few_ev (m : Nat) (f : Bool) (p : Pt) : cf (evFn cx0 ext0 (m + 2)) 26 [.agg (pt f p)] = some (.agg (pt false (few1 p))) := by
  have ld := ld_px p
  have lnb := len_b f p.data
  have sb := fun bx => slc_min t8 (P := Try.prog) bx p.data f .i64 70
  have e1 : ((70 : Nat) : Int) = 70 := rfl
  rw [e1] at sb
  have fb : ∀ bx, frz bx true 6 (byt f (p.data.take 70)) = byt f (p.data.take 70) := fun bx => frz_byt bx 5 f _
  have c1 : cf (evFn cx0 ext0 (m + 1)) 42 [byt f (p.data.take 70)] = _ := bytes_ev m f (p.data.take 70) (by rw [List.length_take]; omega)
  have st1 := fun x y b r => (st_px p x y false b [] r).1
  have st2 := fun x y l r => (st_px p x y false [] l r).2
  have lni := len_i f p.needs
  have si := fun bx => slc_i bx f p.needs 6
  have e2 : ((6 : Nat) : Int) = 6 := rfl
  rw [e2] at si
  have fi : ∀ bx, frz bx true 6 (isl f (p.needs.take 6)) = isl f (p.needs.take 6) := fun bx => by cases f <;> rfl
  have c2 : cf (evFn cx0 ext0 (m + 1)) 19 [isl f (p.needs.take 6)] = _ := ints_ev m f (p.needs.take 6) (by rw [List.length_take]; omega)
  have sz := fun A b l r => st_pz A p b l r
  unfold cf
  rw [E_l14_Few]
  refine ends_cf (P := Try.prog) ?_
  unfold F_l14_Few
  have stq := (And.intro (box_px) (And.intro (al_pz) (And.intro (fa_pt) (And.intro (ld) (And.intro (lnb) (And.intro (sb) (And.intro (fb) (And.intro (c1) (And.intro (st1) (And.intro (lni) (And.intro (si) (And.intro (fi) (And.intro (c2) (And.intro (st2) (sz)))))))))))))))
  repeat first
    | ((with_reducible apply ends_bind); case h => first | (simp only [stp, stq]; first | done | rfl) | rfl)
    | ((with_reducible apply ends_t); case h => first | rfl | (simp only [stp, stq]; done))
    | ((with_reducible apply ends_f); case h => first | rfl | (simp only [stp, stq]; done))
  refine ends_some ⟨.inl rfl, [.agg (px p (byt false (p.data.take 70)) (isl false (p.needs.take 6)))], ?_, rfl⟩
  show (loadA Try.prog 34 [_, px p (byt false (p.data.take 70)) (isl false (p.needs.take 6))] (.bp 1 0)).bind _ = _
  have : loadA Try.prog 34 [px p (byt false (p.data.take 70)) (isl false (p.needs.take 6)), px p (byt false (p.data.take 70)) (isl false (p.needs.take 6))] (.bp 1 0) = some (.agg (px p (byt false (p.data.take 70)) (isl false (p.needs.take 6)))) := by kernel_rfl
  rw [this]
  rfl
theorem bs_p0 (bx : Bx) : buildSliceA Try.prog bx 24 0 [] = some (.bsl bx.length 0 0 9, bx ++ [[]]) := by kernel_rfl
theorem bs_p1 (bx : Bx) (p : Pt) : buildSliceA Try.prog bx 24 1 [(0, .agg (pt false p))] = some (.bsl bx.length 0 1 9, bx ++ [pt false p]) := by kernel_rfl
theorem app_p (l : List Pt) (p : Pt) (hl : l.length < 100) :
    appA Try.prog 0 [[], flatP false l, pt false p] 24 (.bsl 1 0 l.length 9) (.bsl 2 0 1 9) = some (.bsl 1 0 (l.length + 1) 9, AV.keep (· != 1), [[], flatP false (l ++ [p]), pt false p]) := by
  have h : appA Try.prog 0 [[], flatP false l, pt false p] 24 (.bsl 1 0 l.length 9) (.bsl 2 0 1 9) =
      if (pt false p).length = 1 * 9 ∧ 0 < 9 ∧ 9 = 9 ∧ 0 < 104 ∧ 1 * 104 ≤ 2 ^ 47 ∧ 1 < 2 ^ 48 then
        (if 0 = 0 ∧ 0 ≤ 1 ∧ (flatP false l).length = l.length * 9 ∧ (9 = 9 ∨ (9 = 0 ∧ l.length = 0)) ∧ (l.length + 1) * 104 ≤ 2 ^ 47 then
          some (.bsl 1 0 (l.length + 1) (if l.length + 1 = 0 then 9 else 9), AV.keep (· != 1), ([[], flatP false l, pt false p].map fun l => l.map (AV.keep (· != 1))).set 1 ((flatP false l ++ pt false p).map (AV.keep (· != 1)))) else none) else none := by kernel_rfl
  rw [h, if_pos ⟨rfl, by omega, rfl, by omega, by omega, by omega⟩, if_pos ⟨rfl, by omega, flatP_len false l, .inl rfl, by omega⟩, ite_self]
  simp only [List.map_cons, List.map_nil, flatP_keep, pt_keep, List.set_cons_succ, List.set_cons_zero, List.map_append]
  rw [flatP_app]
theorem few_gen {m : Nat} (hm : 37 ≤ m) (fl : Bool) (L : List Pt) {Q : Ex → S → Prop} (hQ : ∀ env : Env, get env 2 = .bsl 1 0 ((L.take 20).map few1).length 9 → Q .ret ⟨env, [[], flatP false ((L.take 20).map few1)]⟩) : Ends (F_l15_few (evFn cx0 ext0 (m + 2)) (m + 2) ([] : Bx).length (psl fl L) []) Q := by
  have b0 := bs_p0
  have ln := len_p fl L
  unfold F_l15_few
  have stq := (b0)
  repeat first
    | ((with_reducible apply ends_bind); case h => first | (simp only [stp, stq]; first | done | rfl) | rfl)
    | ((with_reducible apply ends_t); case h => first | rfl | (simp only [stp, stq]; done))
    | ((with_reducible apply ends_f); case h => first | rfl | (simp only [stp, stq]; done))
  refine ends_loop (fun d st => ∃ (i N : Nat) (y2 : AV) (b0 b1 : List AV), st = ⟨[(4, .v (.int .i64 i)), (3, .bsl 1 0 N 9), (2, y2), (0, psl fl L)], [b0, b1]⟩ ∧
    b0 = [] ∧ b1 = flatP false ((L.take i).map few1) ∧ N = i ∧ i + d = min L.length 20) (min L.length 20) (by omega) ⟨0, 0, _, _, _, rfl, rfl, rfl, rfl, by omega⟩ ?_
  rintro d st ⟨i, N, y2, c0, c1, rfl, rfl, rfl, rfl, hd⟩
  refine L_l15_few_0_lit ?_
  unfold B_l15_few_0
  rcases d with _ | d
  · have hend : Ends (X_l15_few_0_0 (evFn cx0 ext0 (m + 2)) (m + 2) 0 (.v (.bool false)) (.v (.int .i64 N)) (.bsl 1 0 N 9) y2 (psl fl L) [[], flatP false ((L.take N).map few1)]) Q := by
      unfold X_l15_few_0_0
      have ht : L.take N = L.take 20 := by
        rw [List.take_eq_take_iff]
        omega
      have hlen : N = ((L.take 20).map few1).length := by rw [List.length_map, List.length_take]; omega
      rw [ht]
      exact ends_some (hQ _ (congrArg (fun q => AV.bsl 1 0 q 9) hlen))
    by_cases hx : N < L.length
    · have g2 : decide ((N : Int) < (L.length : Int)) = true := decide_eq_true (by omega)
      have g3 : decide ((N : Int) < 20) = false := decide_eq_false (by omega)
      have stq := (And.intro (ln) (And.intro (g2) (g3)))
      repeat first
        | ((with_reducible apply ends_bind); case h => first | (simp only [stp, stq]; first | done | rfl) | rfl)
        | ((with_reducible apply ends_t); case h => first | rfl | (simp only [stp, stq]; done))
        | ((with_reducible apply ends_f); case h => first | rfl | (simp only [stp, stq]; done))
      exact ends_some (.inr (.inl ⟨0, rfl, X_l15_few_0_0_lit hend⟩))
    · have g2 : decide ((N : Int) < (L.length : Int)) = false := decide_eq_false (by omega)
      have stq := (And.intro (ln) (g2))
      repeat first
        | ((with_reducible apply ends_bind); case h => first | (simp only [stp, stq]; first | done | rfl) | rfl)
        | ((with_reducible apply ends_t); case h => first | rfl | (simp only [stp, stq]; done))
        | ((with_reducible apply ends_f); case h => first | rfl | (simp only [stp, stq]; done))
      exact ends_some (.inr (.inl ⟨0, rfl, X_l15_few_0_0_lit hend⟩))
  · have g2 : decide ((N : Int) < (L.length : Int)) = true := decide_eq_true (by omega)
    have g3 : decide ((N : Int) < 20) = true := decide_eq_true (by omega)
    have hi : N < L.length := by omega
    have x1 := idx_p fl L N hi
    have l1 := fun bx => ld_ipp bx fl L[N] (flatP fl (L.drop (N + 1)))
    have c2 : cf (evFn cx0 ext0 (m + 2)) 26 [.agg (pt fl L[N])] = _ := Few_ev m fl L[N]
    have fp : ∀ bx, frz bx true 6 (.agg (pt fl L[N])) = .agg (pt fl L[N]) := fun bx => by
      show AV.agg ((pt fl L[N]).map (frz bx true 5)) = _
      rw [pt_frz]
    have hlen : ((L.take N).map few1).length = N := by rw [List.length_map, List.length_take]; omega
    have ap := app_p ((L.take N).map few1) (few1 L[N]) (by omega)
    rw [hlen] at ap
    have ht : (L.take N).map few1 ++ [few1 L[N]] = (L.take (N + 1)).map few1 := by
      rw [List.take_succ_eq_append_getElem hi, List.map_append]
      rfl
    rw [ht] at ap
    have e3 : IntKind.i64.wrap ((N : Int) + 1) = ((N + 1 : Nat) : Int) := by rw [wrap64]; omega
    have b1 := bs_p1
    have stq := (And.intro (ln) (And.intro (g2) (And.intro (g3) (And.intro (x1) (And.intro (l1) (And.intro (fp) (And.intro (c2) (And.intro (b1) (And.intro (ap) (e3))))))))))
    repeat first
      | ((with_reducible apply ends_bind); case h => first | (simp only [stp, stq]; first | done | rfl) | rfl)
      | ((with_reducible apply ends_t); case h => first | rfl | (simp only [stp, stq]; done))
      | ((with_reducible apply ends_f); case h => first | rfl | (simp only [stp, stq]; done))
    exact ends_some (.inl ⟨rfl, d, by omega, N + 1, _, _, _, _, by first | rfl | (rw [← e3]; rfl), rfl, flatP_keep _ _ _, rfl, by omega⟩)
theorem few_ev {k : Nat} (hk : 40 ≤ k) (fl : Bool) (L : List Pt) : cf (evFn cx0 ext0 k) 8 [psl fl L] = some (psl false ((L.take 20).map few1)) := by
  obtain ⟨m, rfl⟩ : ∃ m, k = m + 3 := ⟨k - 3, by omega⟩
  unfold cf
  rw [E_l15_few]
  refine ends_cf (P := Try.prog) (few_gen (by omega) fl L fun env h => ⟨.inl rfl, [.bsl 1 0 ((L.take 20).map few1).length 9], by rw [← h]; rfl, ?_⟩)
  show AV.sl ((L.take 20).map few1).length ((((flatP false ((L.take 20).map few1)).drop 0).take (((L.take 20).map few1).length * 9)).map (frz _ false 5)) false = _
  rw [List.drop_zero, List.take_of_length_le (l := flatP false ((L.take 20).map few1)) (by rw [flatP_len]; omega), flatP_frz0]
theorem few_raw {k : Nat} (hk : 40 ≤ k) (fl : Bool) (L : List Pt) : evFn cx0 ext0 k 8 [psl fl L] [] = some (.bsl 1 0 ((L.take 20).map few1).length 9, [[], flatP false ((L.take 20).map few1)]) := by
  obtain ⟨m, rfl⟩ : ∃ m, k = m + 3 := ⟨k - 3, by omega⟩
  rw [E_l15_few]
  exact ends_fin (P := Try.prog) (few_gen (by omega) fl L fun env h => ⟨.inl rfl, [.bsl 1 0 ((L.take 20).map few1).length 9], by rw [← h]; rfl, rfl⟩)
end Go.Sy
