/-
  Layer 15: the law RollParts as the reader reads it.
-/
import Derived.Test.YtmkdhgigghgieaaPlParts
import Derived.Test.YtmkdhgigghgieaaLwRollF
namespace Go.Sy
open Go.Proofs Num Crc Seal

/-! ## patches in a box -/
theorem flatP_cat (X Y : List Pt) : flatP false (X ++ Y) = flatP false X ++ flatP false Y := List.flatMap_append
theorem flatP_cons (p : Pt) (Y : List Pt) : flatP false (p :: Y) = pt false p ++ flatP false Y := rfl
theorem flatP_setp (X Y : List Pt) (p q : Pt) (i k : Nat) (x : AV) (hX : X.length = i) (hk : k < 9) (h : (pt false p).set k x = pt false q) : (flatP false (X ++ p :: Y)).set (i * 9 + k) x = flatP false (X ++ q :: Y) := by
  subst hX
  rw [flatP_cat, flatP_cat, flatP_cons, flatP_cons, List.set_append_right _ _ (by rw [flatP_len]; omega), flatP_len, Nat.add_sub_cancel_left, List.set_append_left _ _ (by rw [pt_len]; omega), h]
theorem flatP_getp (M : List Pt) (j k : Nat) (q : Pt) (hk : k < 9) (h : M[j]? = some q) : (flatP false M)[j * 9 + k]? = (pt false q)[k]? := by
  obtain ⟨hj, rfl⟩ := List.getElem?_eq_some_iff.1 h
  rw [← List.getElem?_drop, flatP_at false M j hj, List.getElem?_append_left (by rw [pt_len]; omega)]
theorem ldx {P : Program} {t : TypeId} {n : Nat} (hs : szA P t = some n) (ha : agA P t = some false) (bx : Bx) (k o : Nat) (l : List AV) (h : bx[k]? = some l) : loadA P t bx (.bp k o) = l[o]? := by
  unfold loadA partA
  simp only [h, hs, ha, Option.bind_some]
theorem stx {P : Program} {t : TypeId} (hs : szA P t = some 1) (bx : Bx) (k o : Nat) (l : List AV) (x : AV) (h : bx[k]? = some l) (hx : x.okc = true) (hc : x.cells = [x]) (ho : o < l.length) : stA P t bx (.bp k o) x = some (.v undef, bx.set k (l.set o x)) := by
  have h1 : storeA P t bx (.bp k o) x = some (bx.set k (l.set o x)) := by
    unfold storeA
    simp only [hs, h, Option.bind_some]
    rw [if_pos ⟨hx, by rw [hc]; rfl, by omega⟩, hc]
    rfl
  unfold stA
  rw [h1]
  rfl
theorem szi : szA Try.prog 3 = some 1 := by kernel_rfl
theorem agi : agA Try.prog 3 = some false := by kernel_rfl
theorem szb : szA Try.prog 31 = some 1 := by kernel_rfl
theorem agb : agA Try.prog 31 = some false := by kernel_rfl
theorem ld_off (A C E : List AV) (M : List Pt) (j : Nat) (q : Pt) (h : M[j]? = some q) : loadA Try.prog 3 [A, flatP false M, C, E] (.bp 1 (j * 9 + 2)) = some (.v (.int .i64 q.off)) := by
  rw [ldx szi agi _ 1 _ (flatP false M) rfl, flatP_getp M j 2 q (by omega) h]
  rfl
theorem ld_dat (A C E : List AV) (M : List Pt) (j : Nat) (q : Pt) (h : M[j]? = some q) : loadA Try.prog 31 [A, flatP false M, C, E] (.bp 1 (j * 9 + 3)) = some (byt false q.data) := by
  rw [ldx szb agb _ 1 _ (flatP false M) rfl, flatP_getp M j 3 q (by omega) h]
  rfl
theorem ld_pat (A C E : List AV) (M : List Pt) (j : Nat) (q : Pt) (h : M[j]? = some q) : loadA Try.prog 34 [A, flatP false M, C, E] (.bp 1 (j * 9)) = some (.agg (pt false q)) := by
  obtain ⟨hj, rfl⟩ := List.getElem?_eq_some_iff.1 h
  have h1 : loadA Try.prog 34 [A, flatP false M, C, E] (.bp 1 (j * 9)) = if j * 9 + 9 ≤ (flatP false M).length then some (.agg (((flatP false M).drop (j * 9)).take 9)) else none := by kernel_rfl
  rw [h1, if_pos (by rw [flatP_len]; omega), flatP_at false M j hj, List.take_left' (pt_len _ _)]
theorem st_kind (A C E : List AV) (X Y : List Pt) (p : Pt) (v : Int) (i : Nat) (hX : X.length = i) : stA Try.prog 3 [A, flatP false (X ++ p :: Y), C, E] (.bp 1 (i * 9 + 4)) (.v (.int .i64 v)) = some (.v undef, [A, flatP false (X ++ { p with kind := v } :: Y), C, E]) := by
  rw [stx szi _ 1 _ (flatP false (X ++ p :: Y)) _ rfl rfl rfl (by rw [flatP_len, List.length_append, List.length_cons]; omega), flatP_setp X Y p { p with kind := v } i 4 _ hX (by omega) rfl]
  rfl
theorem st_id (A C E : List AV) (X Y : List Pt) (p : Pt) (v : Int) (i : Nat) (hX : X.length = i) : stA Try.prog 3 [A, flatP false (X ++ p :: Y), C, E] (.bp 1 (i * 9)) (.v (.int .i64 v)) = some (.v undef, [A, flatP false (X ++ { p with id := v } :: Y), C, E]) := by
  rw [stx szi _ 1 _ (flatP false (X ++ p :: Y)) _ rfl rfl rfl (by rw [flatP_len, List.length_append, List.length_cons]; omega)]
  have := flatP_setp X Y p { p with id := v } i 0 (.v (.int .i64 v)) hX (by omega) rfl
  rw [Nat.add_zero] at this
  rw [this]
  rfl
theorem st_off (A C E : List AV) (X Y : List Pt) (p : Pt) (v : Int) (i : Nat) (hX : X.length = i) : stA Try.prog 3 [A, flatP false (X ++ p :: Y), C, E] (.bp 1 (i * 9 + 2)) (.v (.int .i64 v)) = some (.v undef, [A, flatP false (X ++ { p with off := v } :: Y), C, E]) := by
  rw [stx szi _ 1 _ (flatP false (X ++ p :: Y)) _ rfl rfl rfl (by rw [flatP_len, List.length_append, List.length_cons]; omega), flatP_setp X Y p { p with off := v } i 2 _ hX (by omega) rfl]
  rfl
theorem st_dat (A C E : List AV) (X Y : List Pt) (p : Pt) (v : List UInt8) (i : Nat) (hX : X.length = i) : stA Try.prog 31 [A, flatP false (X ++ p :: Y), C, E] (.bp 1 (i * 9 + 3)) (byt false v) = some (.v undef, [A, flatP false (X ++ { p with data := v } :: Y), C, E]) := by
  rw [stx szb _ 1 _ (flatP false (X ++ p :: Y)) _ rfl rfl rfl (by rw [flatP_len, List.length_append, List.length_cons]; omega), flatP_setp X Y p { p with data := v } i 3 _ hX (by omega) rfl]
  rfl
theorem ix_pb (N i : Nat) (hi : i < N) : indexAddrA Try.prog 24 (.bsl 1 0 N 9) (.v (.int .i64 i)) = some (.bp 1 (i * 9)) := by
  have h : indexAddrA Try.prog 24 (.bsl 1 0 N 9) (.v (.int .i64 i)) = if 9 = 9 then (idxI N 0 9 (.v (.int .i64 i))).map fun o => .bp 1 o else none := by kernel_rfl
  have e : idxI N 0 9 (.v (.int .i64 i)) = some (i * 9) := by
    show (if 0 ≤ (i : Int) ∧ (i : Int) < N then some (0 + (i : Int).toNat * 9) else none) = _
    rw [if_pos ⟨by omega, by omega⟩, Int.toNat_natCast, Nat.zero_add]
  rw [h, if_pos rfl, e]
  rfl
theorem fa_po (j o : Nat) : fieldAddrA Try.prog 34 (.bp j o) 0 = some (.bp j o) ∧ fieldAddrA Try.prog 34 (.bp j o) 2 = some (.bp j (o + 2)) ∧ fieldAddrA Try.prog 34 (.bp j o) 3 = some (.bp j (o + 3)) ∧ fieldAddrA Try.prog 34 (.bp j o) 4 = some (.bp j (o + 4)) := ⟨by kernel_rfl, by kernel_rfl, by kernel_rfl, by kernel_rfl⟩
theorem len_pb (N : Nat) : lenA Try.prog 24 (.bsl 1 0 N 9) = some (.v (.int .i64 (N : Int))) := by kernel_rfl

/-! ## bools -/
def bll (l : List Bool) : List AV := l.map fun b => .v (.bool b)
theorem bll_len (l : List Bool) : (bll l).length = l.length := by simp [bll]
theorem fit_bools {a : AV} (h : Fit (.sl [.bool]) a) : ∃ xs : List Bool, xs.length ≤ maxLen ∧ a = .sl xs.length (bll xs) true := by
  cases h with
  | sl row n l hn hl h =>
    simp only [List.length_cons, List.length_nil, Nat.zero_add, Nat.mul_one] at hl
    subst hl
    have : ∃ xs : List Bool, l = bll xs := by
      clear hn
      induction l with
      | nil => exact ⟨[], rfl⟩
      | cons x l ih =>
        obtain ⟨b, rfl⟩ := ih (fun i y c hy hc => h (i + 1) y c (by simpa using hy) (by simpa [Nat.mod_one] using hc))
        obtain ⟨v, rfl⟩ := fit_bool (h 0 x .bool rfl (by simp))
        exact ⟨v :: b, rfl⟩
    obtain ⟨xs, rfl⟩ := this
    rw [bll_len] at hn
    exact ⟨xs, hn, by rw [bll_len]⟩
theorem len_bl (l : List Bool) : lenA Try.prog 50 (.sl l.length (bll l) true) = some (.v (.int .i64 (l.length : Int))) := by kernel_rfl
theorem idx_bl (l : List Bool) (i : Nat) (hi : i < l.length) : indexAddrA Try.prog 50 (.sl l.length (bll l) true) (.v (.int .i64 i)) = some (.ip (.v (.bool l[i]) :: bll (l.drop (i + 1))) true) := by
  have h : indexAddrA Try.prog 50 (.sl l.length (bll l) true) (.v (.int .i64 i)) = (idxI l.length 0 1 (.v (.int .i64 i))).bind fun o => if l.length * 1 ≤ (bll l).length then some (.ip ((bll l).drop o) true) else none := by kernel_rfl
  have e : idxI l.length 0 1 (.v (.int .i64 i)) = some i := by
    show (if 0 ≤ (i : Int) ∧ (i : Int) < l.length then some (0 + (i : Int).toNat * 1) else none) = _
    rw [if_pos ⟨by omega, by omega⟩, Int.toNat_natCast, Nat.zero_add, Nat.mul_one]
  rw [h, e, Option.bind_some, if_pos (by rw [bll_len]; omega)]
  unfold bll
  rw [← List.map_drop, List.drop_eq_getElem_cons hi]
  rfl
theorem ld_bl (bx : Bx) (x : Bool) (r : List AV) : loadA Try.prog 4 bx (.ip (.v (.bool x) :: r) true) = some (.v (.bool x)) := by kernel_rfl

/-! ## few patches, in a box -/
theorem flatP_bare (l : List Pt) : (flatP false l).map AV.bare = flatP false l := by
  induction l with
  | nil => rfl
  | cons a l ih => rw [flatP_cons, List.map_append, ih]; rfl
theorem few_call (n : Nat) (hn : 40 ≤ n) (bx : Bx) (L : List Pt) : callA (evFn cx0 ext0 n) md_l15_RollParts bx 8 [psl true L] = some (.bsl bx.length 0 ((L.take 20).map few1).length 9, bx ++ [flatP false ((L.take 20).map few1)]) := by
  have hr := few_raw (k := n) hn true L
  generalize (L.take 20).map few1 = M at *
  have fp : [psl true L].map (frz bx true 6) = [psl true L] := rfl
  rw [callA_boxed rfl (by rw [fp]; exact hr)]
  show some (AV.bsl bx.length 0 _ 9, bx ++ [(((flatP false M).drop 0).take (M.length * 9)).map AV.bare]) = _
  rw [List.drop_zero, List.take_of_length_le (l := flatP false M) (by rw [flatP_len]; omega), flatP_bare]

/-! ## numbers of patches -/
def idsD (D : List (Pt × Bool)) : List Int := (chosen D).map (·.id)
def Numb (D : List (Pt × Bool)) : Prop := ∀ (j : Nat) (e : Pt × Bool), D[j]? = some e → e.1.id = (j : Int) + 1
theorem ids_has (D : List (Pt × Bool)) (h : Numb D) (j : Nat) (e : Pt × Bool) (he : D[j]? = some e) : (idsD D).contains ((j : Int) + 1) = e.2 := by
  rcases hc : e.2
  · rw [← Bool.not_eq_true, List.contains_iff_mem]
    intro hm
    obtain ⟨p, hp, hid⟩ := List.mem_map.1 hm
    obtain ⟨e', he', rfl⟩ := List.mem_map.1 hp
    obtain ⟨he1, he2⟩ := List.mem_filter.1 he'
    obtain ⟨m, hm'⟩ := List.getElem?_of_mem he1
    have := h m e' hm'
    have e0 : m = j := by omega
    rw [e0, he, Option.some.injEq] at hm'
    rw [← hm', hc] at he2
    cases he2
  · rw [List.contains_iff_mem]
    refine List.mem_map.2 ⟨e.1, List.mem_map.2 ⟨e, List.mem_filter.2 ⟨List.mem_of_getElem? he, hc⟩, rfl⟩, h j e he⟩
theorem ids_mem (D : List (Pt × Bool)) (h : Numb D) (e : Pt × Bool) (he : e ∈ D) : (idsD D).contains e.1.id = e.2 := by
  obtain ⟨j, hj⟩ := List.getElem?_of_mem he
  rw [h j e hj]
  exact ids_has D h j e hj
theorem so_D (D : List (Pt × Bool)) (h : Numb D) : (D.map (·.1)).filter (fun p => (idsD D).contains p.id) = chosen D := by
  unfold chosen
  rw [List.filter_map]
  congr 1
  refine List.filter_congr fun e he => ?_
  exact ids_mem D h e he
theorem wo_D (D : List (Pt × Bool)) (h : Numb D) : wo (idsD D) (D.map (·.1)) = left D := by
  unfold left wo
  rw [List.filter_map]
  congr 1
  refine List.filter_congr fun e he => ?_
  show (!(idsD D).contains e.1.id) = _
  rw [ids_mem D h e he]
theorem numb_snoc (D : List (Pt × Bool)) (h : Numb D) (p : Pt) (c : Bool) (hp : p.id = (D.length : Int) + 1) : Numb (D ++ [(p, c)]) := by
  intro j e he
  by_cases hj : j < D.length
  · rw [List.getElem?_append_left hj] at he
    exact h j e he
  · rw [List.getElem?_append_right (by omega)] at he
    have e0 : j - D.length = 0 := by
      have := (List.getElem?_eq_some_iff.1 he).1
      simp at this
      omega
    rw [e0] at he
    simp only [List.getElem?_cons_zero, Option.some.injEq] at he
    subst he
    have e1 : j = D.length := by omega
    subst e1
    exact hp
theorem bs_i1 (bx : Bx) (v : Int) : buildSliceA Try.prog bx 32 1 [(0, .v (.int .i64 v))] = some (.bsl bx.length 0 1 1, bx ++ [[.v (.int .i64 v)]]) := by kernel_rfl
theorem bs_i0 (bx : Bx) : buildSliceA Try.prog bx 32 0 [] = some (.bsl bx.length 0 0 1, bx ++ [[]]) := by kernel_rfl
theorem frz_p1 (B : List AV) (A : List Pt) (r : Bx) : frz (B :: flatP false A :: r) true 6 (.bsl 1 0 A.length 9) = psg true A := by
  show AV.sl A.length ((((flatP false A).drop 0).take (A.length * 9)).map (frz _ true 5)) true = _
  rw [List.drop_zero, List.take_of_length_le (by rw [flatP_len]; omega), flatP_frz]
theorem frz_p2 (B C : List AV) (A : List Pt) (r : Bx) : frz (B :: C :: flatP false A :: r) true 6 (.bsl 2 0 A.length 9) = psg true A := by
  show AV.sl A.length ((((flatP false A).drop 0).take (A.length * 9)).map (frz _ true 5)) true = _
  rw [List.drop_zero, List.take_of_length_le (by rw [flatP_len]; omega), flatP_frz]
theorem frz_i3 (B C D : List AV) (l : List Int) (r : Bx) : frz (B :: C :: D :: il l :: r) true 6 (.bsl 3 0 l.length 1) = isl true l := by
  show AV.sl l.length ((((il l).drop 0).take (l.length * 1)).map (frz _ true 5)) true = _
  rw [List.drop_zero, List.take_of_length_le (by rw [il_len]; omega), il_frz]
end Go.Sy
