/-
  The law DiskFlushed: its arguments.
-/
import Derived.Test.YtijmfjpcjceejaaLwFls3
namespace Go.Sy
open Go.Proofs

def il (l : List Int) : List AV := l.map fun x => .v (.int .i64 x)
theorem il_len (l : List Int) : (il l).length = l.length := by simp [il]
theorem fit_ints {a : AV} (h : Fit (.sl [.int .i64]) a) : ∃ xs : List Int, xs.length ≤ maxLen ∧ a = .sl xs.length (il xs) true := by
  cases h with
  | sl row n l hn hl h =>
    simp only [List.length_cons, List.length_nil, Nat.zero_add, Nat.mul_one] at hl
    subst hl
    have : ∃ xs : List Int, l = il xs := by
      clear hn
      induction l with
      | nil => exact ⟨[], rfl⟩
      | cons x l ih =>
        obtain ⟨b, rfl⟩ := ih (fun i y c hy hc => h (i + 1) y c (by simpa using hy) (by simpa [Nat.mod_one] using hc))
        obtain ⟨v, rfl, _⟩ := fit_i64 (h 0 x (.int .i64) rfl (by simp))
        exact ⟨v :: b, rfl⟩
    obtain ⟨xs, rfl⟩ := this
    rw [il_len] at hn
    exact ⟨xs, hn, by rw [il_len]⟩
theorem keep_ints (xs : List Int) (f : Bool) (bx : Bx) (s : Nat) : keepA bx s (.sl xs.length (il xs) f) = some xs := by
  have h : intsA (il xs) = some xs := by
    induction xs with
    | nil => rfl
    | cons x xs ih =>
      show (intsA (il xs)).map (fun l => x :: l) = _
      rw [ih]
      rfl
  unfold keepA
  simp only [h, Option.bind_some, if_true]
/-- an act -/
structure Ac where
  dd : Int
  at_ : Int
  b : List UInt8
  ks : List Int
def ac (a : Ac) : List AV := .v (.int .i64 a.dd) :: .v (.int .i64 a.at_) :: (u8l a.b ++ [.sl a.ks.length (il a.ks) true])
def acs (L : List Ac) : List AV := L.flatMap ac
def asl (L : List Ac) : AV := .sl L.length (acs L) true
def arow : List Sh := .int .i64 :: .int .i64 :: ((List.replicate 64 [Sh.int .u8]).flatten ++ [.sl [.int .i64]])
theorem ac_len {a : Ac} (h : a.b.length = 64) : (ac a).length = 67 := by simp [ac, u8l_len, h]
theorem acs_drop : ∀ {L : List Ac}, (∀ a ∈ L, a.b.length = 64) → ∀ (i : Nat) (h : i < L.length), ∃ r, (acs L).drop (i * 67) = ac L[i] ++ r
  | a :: L, hL, 0, _ => ⟨acs L, rfl⟩
  | a :: L, hL, i + 1, h => by
    obtain ⟨r, hr⟩ := acs_drop (L := L) (fun x hx => hL x (List.mem_cons_of_mem _ hx)) i (by simpa using h)
    refine ⟨r, ?_⟩
    show (ac a ++ acs L).drop ((i + 1) * 67) = _
    rw [show (i + 1) * 67 = (ac a).length + i * 67 by rw [ac_len (hL a (by simp))]; omega, ← List.drop_drop, List.drop_left]
    exact hr
theorem acs_len {L : List Ac} (h : ∀ a ∈ L, a.b.length = 64) : (acs L).length = L.length * 67 := by
  induction L with
  | nil => rfl
  | cons a L ih =>
    show (ac a ++ acs L).length = _
    rw [List.length_append, ac_len (h a (by simp)), ih fun x hx => h x (by simp [hx]), List.length_cons]
    omega
theorem asl_acts {L : List Ac} (h : ∀ a ∈ L, a.b.length = 64) : Acts (asl L) (L.map fun a => (a.at_, a.b)) := by
  have t22 : isSl Try.prog 22 = true ∧ elA Try.prog 22 = some 34 ∧ szA Try.prog 34 = some 67 := ⟨by kernel_rfl, by kernel_rfl, by kernel_rfl⟩
  have f1 : fiA Try.prog 34 1 = some (1, 3) ∧ fiA Try.prog 34 2 = some (2, 32) := ⟨by kernel_rfl, by kernel_rfl⟩
  have s1 : szA Try.prog 3 = some 1 ∧ agA Try.prog 3 = some false ∧ szA Try.prog 32 = some 64 ∧ agA Try.prog 32 = some true := ⟨by kernel_rfl, by kernel_rfl, by kernel_rfl, by kernel_rfl⟩
  refine ⟨?_, fun i hi => ?_⟩
  · rw [List.length_map]
    have h0 : ∀ (n : Nat) (l : List AV), lenA Try.prog 22 (.sl n l true) = some (.v (.int .i64 n)) := by intro n l; kernel_rfl
    exact h0 _ _
  · rw [List.length_map] at hi
    rw [List.getElem_map]
    have hb := h _ (List.getElem_mem hi)
    obtain ⟨r, hr⟩ := acs_drop h i hi
    generalize L[i] = a at *
    refine ⟨.ip (ac a ++ r) true, .ip ((ac a ++ r).drop 1) true, .ip ((ac a ++ r).drop 2) true, ?_, ?_, ?_, fun bx => ?_, fun bx => ?_, hb⟩
    · unfold indexAddrA asl
      simp only [t22.1, if_true, t22.2.1, t22.2.2, Option.bind_some, idxI]
      rw [if_pos ⟨by omega, by omega⟩, Option.bind_some, if_pos (by rw [acs_len h]; exact Nat.le_refl _)]
      rw [show 0 + ((i : Int)).toNat * 67 = i * 67 by simp, hr]
    · unfold fieldAddrA
      simp only [f1.1, Option.bind_some, s1.1]
      rfl
    · unfold fieldAddrA
      simp only [f1.2, Option.bind_some, s1.2.2.1]
      rfl
    · unfold loadA partA
      simp only [s1.1, s1.2.1]
      rfl
    · unfold loadA partA
      simp only [s1.2.2.1, s1.2.2.2]
      have hd : (ac a ++ r).drop 2 = u8l a.b ++ ([.sl a.ks.length (il a.ks) true] ++ r) := by
        simp [ac]
      rw [hd, if_pos (by simp [u8l_len, hb]), List.drop_zero, List.take_left' (by rw [u8l_len, hb])]
theorem fit_ac {l : List AV} (h : ShFits arow l) : ∃ a : Ac, a.b.length = 64 ∧ l = ac a := by
  obtain ⟨h1, h2⟩ := h
  have hlen : l.length = 67 := h1
  obtain ⟨b, hb, eb⟩ := fits_bytes 64 (l := (l.drop 2).take 64) ⟨by rw [List.length_take, List.length_drop, hlen]; rfl, fun i x c hx hc => by
    have hi : i < 64 := (List.getElem?_eq_some_iff.1 hc).1
    rw [List.getElem?_take_of_lt hi, List.getElem?_drop] at hx
    refine h2 (2 + i) x c hx ?_
    show arow[2 + i]? = _
    rw [Nat.add_comm]
    show ((List.replicate 64 [Sh.int .u8]).flatten ++ [.sl [.int .i64]])[i]? = _
    rw [List.getElem?_append_left hi]
    exact hc⟩
  obtain ⟨x0, x1, l', rfl⟩ : ∃ x0 x1 l', l = x0 :: x1 :: l' := by
    match l, hlen with
    | x0 :: x1 :: l', _ => exact ⟨x0, x1, l', rfl⟩
  obtain ⟨v0, rfl, _⟩ := fit_i64 (h2 0 x0 (.int .i64) rfl rfl)
  obtain ⟨v1, rfl, _⟩ := fit_i64 (h2 1 x1 (.int .i64) rfl rfl)
  simp only [List.drop_succ_cons, List.drop_zero] at eb
  simp only [List.length_cons] at hlen
  obtain ⟨y, hy⟩ : ∃ y, l'.drop 64 = [y] := by
    have : (l'.drop 64).length = 1 := by rw [List.length_drop]; omega
    exact List.length_eq_one_iff.1 this
  have hy' : l'[64]? = some y := by
    have := congrArg (fun l => l[0]?) hy
    simpa using this
  obtain ⟨ks, _, rfl⟩ := fit_ints (h2 66 y (.sl [.int .i64]) (by simpa using hy') rfl)
  refine ⟨⟨v0, v1, b, ks⟩, hb, ?_⟩
  show _ :: _ :: l' = _ :: _ :: (u8l b ++ _)
  rw [← eb, ← hy, List.take_append_drop]
theorem fit_acs (n : Nat) (l : List AV) (hl : l.length = n * 67) (h : ∀ (i : Nat) (x : AV) (c : Sh), l[i]? = some x → arow[i % 67]? = some c → Fit c x) : ∃ L : List Ac, L.length = n ∧ (∀ a ∈ L, a.b.length = 64) ∧ l = acs L := by
  induction n generalizing l with
  | zero => exact ⟨[], rfl, by simp, List.length_eq_zero_iff.1 (by omega)⟩
  | succ n ih =>
    obtain ⟨p, hpb, hp⟩ := fit_ac (l := l.take 67) ⟨by rw [List.length_take, hl]; show min 67 _ = 67; omega, fun i x c hx hc => by
      have hi : i < 67 := (List.getElem?_eq_some_iff.1 hc).1
      rw [List.getElem?_take_of_lt hi] at hx
      exact h i x c hx (by rw [Nat.mod_eq_of_lt hi]; exact hc)⟩
    obtain ⟨L, hL, hLb, e⟩ := ih (l.drop 67) (by rw [List.length_drop, hl]; omega) (fun i x c hx hc => h (67 + i) x c (by rw [← List.getElem?_drop]; exact hx) (by rw [Nat.add_mod_left]; exact hc))
    refine ⟨p :: L, by rw [List.length_cons, hL], fun a ha => ?_, ?_⟩
    · rcases List.mem_cons.1 ha with rfl | ha
      · exact hpb
      · exact hLb a ha
    · show l = ac p ++ acs L
      rw [← hp, ← e, List.take_append_drop]
theorem fit_acts {a : AV} (h : Fit (.sl arow) a) : ∃ L : List Ac, (∀ a ∈ L, a.b.length = 64) ∧ a = asl L := by
  cases h with
  | sl row n l hn hl h =>
    obtain ⟨L, rfl, hb, rfl⟩ := fit_acs n l hl h
    exact ⟨L, hb, rfl⟩
theorem flushed_law {L0 L1 : List Ac} {ks : List Int} (h0 : ∀ a ∈ L0, a.b.length = 64) (h1 : ∀ a ∈ L1, a.b.length = 64) : cf (evFn cx0 ext0 1000) 3 [asl L0, asl L1, .sl ks.length (il ks) true] = some (.v (.bool true)) :=
  flushed_ev (asl_acts h0) (asl_acts h1) fun bx s => keep_ints ks true bx s
end Go.Sy
