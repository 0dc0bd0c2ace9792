/-
  Steps of the reader where a condition is not known, and loops by what holds at a round's head.
-/
import Derived.Test.YtmkdhgigghgieaaSySimp
import Derived.Test.YtmkdhgigghgieaaSyArgs
namespace Go.Sy

theorem ends_gs {w b : Bool} {bx : Bx} {x : Option (AV × Bx)} {f : AV × Bx → Option (Ex × S)} {Q : Ex → S → Prop} (h1 : b = w → Ends (x.bind f) Q) (h2 : b = !w → Ends (f (.v undef, bx)) Q) : Ends ((gsel w bx x (.v (.bool b))).bind f) Q := by
  unfold gsel
  by_cases h : b = w
  · subst h
    simpa using h1 rfl
  · have hb : b = !w := by cases b <;> cases w <;> simp_all
    have : (b == w) = false := by simpa using h
    simp only [this]
    exact h2 hb

theorem ends_cd {b : Bool} {r r' : Option (Ex × S)} {Q : Ex → S → Prop} (h1 : b = true → Ends r Q) (h2 : b = false → Ends r' Q) : Ends (condA (.v (.bool b)) r r') Q := by
  cases b
  · exact h2 rfl
  · exact h1 rfl

theorem Ends.mono {r : Option (Ex × S)} {Q Q' : Ex → S → Prop} (h : Ends r Q) (hq : ∀ e s, Q e s → Q' e s) : Ends r Q' := by
  obtain ⟨e, s, h1, h2⟩ := h
  exact ⟨e, s, h1, hq e s h2⟩

/-- A loop: 'I k' holds at a round's head where at most k rounds are left. -/
theorem ends_iter {hd : S → S} {f : S → Option (Ex × S)} {Q : Ex → S → Prop} (I : Nat → S → Prop)
    (step : ∀ k s, I k s → Ends (f s) fun e s' => (e = .normal ∧ ∃ k', k' < k ∧ I k' (hd s')) ∨ (e ≠ .normal ∧ Q e s')) : ∀ n k s, k < n → I k s → Ends (iter hd f n s) Q := by
  intro n
  induction n with
  | zero => intro k s h; omega
  | succ n ih =>
    intro k s hk hI
    obtain ⟨e, s', h1, h2⟩ := step k s hI
    rcases h2 with ⟨rfl, k', hk', hI'⟩ | ⟨he, hq⟩
    · obtain ⟨e2, s2, h3, h4⟩ := ih k' _ (by omega) hI'
      exact ⟨e2, s2, by simp only [iter, h1, seqA]; exact h3, h4⟩
    · refine ⟨e, s', ?_, hq⟩
      simp only [iter, h1]
      cases e <;> first | rfl | exact (he rfl).elim

theorem ends_exit {r : Option (Ex × S)} {K : S → Option (Ex × S)} {X : Nat → S → Option (Ex × S)} {Q : Ex → S → Prop} (Q' : Ex → S → Prop) (h : Ends r Q')
    (hK : ∀ s, Q' .normal s → Ends (K s) Q) (hX : ∀ i s, Q' (.exit i) s → Ends (X i s) Q) (hR : ∀ s, Q' .ret s → Q .ret s) : Ends (exitA r K X) Q := by
  obtain ⟨e, s, rfl, h2⟩ := h
  cases e with
  | normal => exact hK s h2
  | exit i => exact hX i s h2
  | ret => exact ⟨.ret, s, rfl, hR s h2⟩

/-- a loop that is left by one exit alone -/
theorem ends_loop {hd : S → S} {s : S} {f : S → Option (Ex × S)} {n : Nat} {K : S → Option (Ex × S)} {X : Nat → S → Option (Ex × S)} {Q : Ex → S → Prop} (I : Nat → S → Prop) (k : Nat) (hk : k < n) (h0 : I k s)
    (step : ∀ k s, I k s → Ends (f s) fun e s' => (e = .normal ∧ ∃ k', k' < k ∧ I k' (hd s')) ∨ (∃ i, e = .exit i ∧ Ends (X i s') Q) ∨ (e = .ret ∧ Q .ret s')) : Ends (exitA (iter hd f n s) K X) Q := by
  refine ends_exit (fun e s' => e ≠ .normal ∧ ((∃ i, e = .exit i ∧ Ends (X i s') Q) ∨ (e = .ret ∧ Q .ret s'))) (ends_iter I (fun k s h => (step k s h).mono fun e s' h => ?_) n k s hk h0) ?_ ?_ ?_
  · rcases h with h | ⟨i, rfl, h⟩ | ⟨rfl, h⟩
    · exact .inl h
    · exact .inr ⟨by simp, by simp, .inl ⟨i, rfl, h⟩⟩
    · exact .inr ⟨by simp, by simp, .inr ⟨rfl, h⟩⟩
  · rintro s ⟨h, _⟩
    exact (h rfl).elim
  · rintro i s ⟨_, ⟨j, hj, h⟩ | ⟨h, _⟩⟩
    · cases hj
      exact h
    · cases h
  · rintro s ⟨_, ⟨j, hj, _⟩ | ⟨_, h⟩⟩
    · cases hj
    · exact h

theorem tup0 (a : AV) (l : List AV) : tupA (.tup (a :: l)) 0 = some a := rfl
theorem tup1 (a b : AV) (l : List AV) : tupA (.tup (a :: b :: l)) 1 = some b := rfl
theorem tup2 (a b c : AV) (l : List AV) : tupA (.tup (a :: b :: c :: l)) 2 = some c := rfl
theorem not_v (b : Bool) : unA .not (.v (.bool b)) = some (.v (.bool !b)) := rfl

section
variable (P : Program) (k k' : IntKind) (m n : Int) (t : TypeId)
theorem bin_and : binA P .and t (.v (.int k m)) (.v (.int k n)) = some (.v (.int k (bitI .and k m n))) := by simp [binA, binV, intA]
theorem bin_or : binA P .or t (.v (.int k m)) (.v (.int k n)) = some (.v (.int k (bitI .or k m n))) := by simp [binA, binV, intA]
theorem bin_xor : binA P .xor t (.v (.int k m)) (.v (.int k n)) = some (.v (.int k (bitI .xor k m n))) := by simp [binA, binV, intA]
theorem bin_shl (j : Nat) : binA P .shl t (.v (.int k m)) (.v (.int k' (j : Int))) = some (.v (.int k (k.wrap (m * 2 ^ (min j k.bits))))) := by
  simp only [binA, binV, shA]
  rw [if_neg (by omega)]
  rfl
theorem bin_shr (j : Nat) : binA P .shr t (.v (.int k m)) (.v (.int k' (j : Int))) = some (.v (.int k (m.fdiv (2 ^ (min j k.bits))))) := by
  simp only [binA, binV, shA]
  rw [if_neg (by omega)]
  rfl
theorem bin_andNot : binA P .andNot t (.v (.int k m)) (.v (.int k n)) = some (.v (.int k (bitI .andNot k m n))) := by simp [binA, binV, intA]
end

/-! ## whole numbers -/
theorem wrap64 (x : Int) : IntKind.i64.wrap x = (x + 9223372036854775808) % 18446744073709551616 - 9223372036854775808 := by
  unfold IntKind.wrap
  simp only [IntKind.bits, IntKind.signed]
  simp
  omega
theorem wrap8 (x : Int) : IntKind.u8.wrap x = x % 256 := by
  unfold IntKind.wrap
  simp [IntKind.bits, IntKind.signed]
theorem wrap16 (x : Int) : IntKind.u16.wrap x = x % 65536 := by
  unfold IntKind.wrap
  simp [IntKind.bits, IntKind.signed]
theorem wrap32 (x : Int) : IntKind.u32.wrap x = x % 4294967296 := by
  unfold IntKind.wrap
  simp [IntKind.bits, IntKind.signed]
theorem wrapu64 (x : Int) : IntKind.u64.wrap x = x % 18446744073709551616 := by
  unfold IntKind.wrap
  simp [IntKind.bits, IntKind.signed]

/-! ## bytes -/
abbrev u8 (x : UInt8) : AV := .v (.int .u8 x.toNat)
def u8l (b : List UInt8) : List AV := b.map u8
theorem u8s_mk (b : List UInt8) : u8s ⟨b.toArray⟩ = u8l b := rfl
theorem u8s_eq (s : ByteArray) : u8s s = u8l s.data.toList := rfl
theorem u8l_len (b : List UInt8) : (u8l b).length = b.length := by simp [u8l]
theorem u8l_get (b : List UInt8) (i : Nat) : (u8l b)[i]? = (b[i]?).map u8 := by simp [u8l]
theorem u8l_drop (b : List UInt8) (i : Nat) : (u8l b).drop i = u8l (b.drop i) := by simp [u8l]
theorem u8l_take (b : List UInt8) (i : Nat) : (u8l b).take i = u8l (b.take i) := by simp [u8l]
theorem u8l_app (b c : List UInt8) : u8l b ++ u8l c = u8l (b ++ c) := by simp [u8l]
theorem u8l_set (b : List UInt8) (i : Nat) (x : UInt8) : (u8l b).set i (u8 x) = u8l (b.set i x) := by simp [u8l]
theorem u8l_frz (bx : Bx) (l : Bool) (n : Nat) (b : List UInt8) : (u8l b).map (frz bx l (n + 1)) = u8l b := by
  simp only [u8l, List.map_map]
  rfl
theorem u8l_keep (p : Nat → Bool) (b : List UInt8) : (u8l b).map (AV.keep p) = u8l b := by
  simp only [u8l, List.map_map]
  rfl
theorem u8l_bare (b : List UInt8) : (u8l b).map AV.bare = u8l b := by
  simp only [u8l, List.map_map]
  rfl
theorem u8l_bytes (b : List UInt8) : bytesA (u8l b) = some b := by
  induction b with
  | nil => rfl
  | cons x b ih =>
    show (bytesA (u8l b)).map (fun l => UInt8.ofNat ((x.toNat : Int)).toNat :: l) = some (x :: b)
    rw [ih]
    simp
theorem u8l_inj {b c : List UInt8} (h : u8l b = u8l c) : b = c := by
  have := congrArg bytesA h
  simpa [u8l_bytes] using this

theorem min_v (k k' : IntKind) (n c : Int) : minL false (.v (.int k n)) [.v (.int k' c)] = some (.v (.int k (min n c))) := by
  simp only [minL, minA, Option.bind_some, Bool.false_eq_true, if_false]
  congr 3
  by_cases h : c < n
  · rw [if_pos h]; omega
  · rw [if_neg h]; omega
theorem max_v (k k' : IntKind) (n c : Int) : minL true (.v (.int k n)) [.v (.int k' c)] = some (.v (.int k (max n c))) := by
  simp only [minL, minA, Option.bind_some, if_true]
  congr 3
  by_cases h : c > n
  · rw [if_pos h]; omega
  · rw [if_neg h]; omega

/-- a call whose slice becomes a box -/
theorem callA_boxed {E : FnA} {md : FuncId → Md} {f : FuncId} (h : md f = .boxed) {bx bx' : Bx} {args : List AV} {b off m e : Nat} (hr : E f (args.map (frz bx true 6)) [] = some (.bsl b off m e, bx')) :
    callA E md bx f args = some (.bsl bx.length 0 m e, bx ++ [((((bx'[b]?).getD []).drop off).take (m * e)).map AV.bare]) := by
  unfold callA
  rw [h]
  simp only [hr, Option.map_some, expo]

theorem ends_fin {P : Program} {rs : List ResultVar} {r : Option (Ex × S)} {y : AV × Bx} (h : Ends r fun e s => (e = .ret ∨ e = .normal) ∧ ∃ l, resL P s.env s.bx rs = some l ∧ (resA l, s.bx) = y) : fin P rs r = some y := by
  obtain ⟨e, s, rfl, he, l, h1, h2⟩ := h
  rcases he with rfl | rfl <;> simp only [fin, h1, Option.map_some, h2]

/-! ## slices of bytes -/
/-- bytes that are read -/
abbrev byt (f : Bool) (b : List UInt8) : AV := .sl b.length (u8l b) f
/-- is it a slice of bytes? -/
def sl8 (P : Program) (t : TypeId) : Bool := isSl P t && (match elA P t with | some e => szA P e == some 1 && byA P e == some 1 && ((zcA P e).map (·.length)) == some 1 && agA P e == some false | none => false)

theorem sl8_spec {P : Program} {t : TypeId} (h : sl8 P t = true) : isSl P t = true ∧ ∃ e z, elA P t = some e ∧ szA P e = some 1 ∧ byA P e = some 1 ∧ zcA P e = some [z] ∧ agA P e = some false := by
  unfold sl8 at h
  rw [Bool.and_eq_true] at h
  obtain ⟨h1, h2⟩ := h
  split at h2
  · rename_i e he
    simp only [Bool.and_eq_true, beq_iff_eq, Option.map_eq_some_iff] at h2
    obtain ⟨⟨⟨h3, h4⟩, z, hz, hl⟩, h5⟩ := h2
    match z, hl with
    | [z], _ => exact ⟨h1, e, z, he, h3, h4, hz, h5⟩
  · cases h2

theorem u8l_dropc (b : List UInt8) (i : Nat) (hi : i < b.length) : (u8l b).drop i = u8 b[i] :: u8l (b.drop (i + 1)) := by
  rw [u8l_drop, List.drop_eq_getElem_cons hi]
  rfl

/-- a byte of a slice that is read -/
theorem idx_u8 {P : Program} {t : TypeId} (ht : sl8 P t = true) (b : List UInt8) (f : Bool) (k : IntKind) (i : Nat) (hi : i < b.length) :
    indexAddrA P t (.sl b.length (u8l b) f) (.v (.int k i)) = some (.ip (u8 b[i] :: u8l (b.drop (i + 1))) f) := by
  obtain ⟨h1, e, z, h2, h3, -, -⟩ := sl8_spec ht
  unfold indexAddrA
  simp only [h1, if_true, h2, h3, Option.bind_some]
  simp only [idxI]
  rw [if_pos ⟨by omega, by omega⟩]
  simp only [Option.bind_some, u8l_len, Nat.mul_one, Nat.le_refl, if_true, Nat.zero_add, Int.toNat_natCast]
  rw [u8l_dropc b i hi]

/-- a byte of a box of bytes -/
theorem idx_b8 {P : Program} {t : TypeId} (ht : sl8 P t = true) (b off n : Nat) (k : IntKind) (i : Nat) (hi : i < n) : indexAddrA P t (.bsl b off n 1) (.v (.int k i)) = some (.bp b (off + i)) := by
  obtain ⟨h1, e, z, h2, h3, -, -⟩ := sl8_spec ht
  unfold indexAddrA
  simp only [h1, if_true, h2, h3, Option.bind_some]
  simp only [idxI]
  rw [if_pos ⟨by omega, by omega⟩]
  simp

theorem appV {P : Program} {t : TypeId} (ht : sl8 P t = true) (n0 : Nat) (bx : Bx) (y : AV) (b : Nat) (c d : List UInt8) (m : Nat) (hb : bx[b]? = some (u8l c)) (h0 : n0 ≤ b) (hy : readA bx y = some (d.length, u8l d)) (hd : d.length < 2 ^ 32) (hc : c.length < 2 ^ 32) (hm : m = c.length) :
    appA P n0 bx t (.bsl b 0 m 1) y = some (.bsl b 0 (c.length + d.length) 1, AV.keep (· != b), (bx.map fun l => l.map (AV.keep (· != b))).set b (u8l (c ++ d))) := by
  obtain ⟨h1, e, z, h2, h3, h4, h5, -⟩ := sl8_spec ht
  subst hm
  unfold appA
  simp only [h1, if_true, h2, h3, h4, h5, hy, Option.bind_some]
  rw [if_pos ⟨by rw [u8l_len]; omega, by omega, rfl, by omega, by omega, by omega⟩]
  simp only [hb, Option.bind_some]
  rw [if_pos (by refine ⟨?_, h0, ?_, ?_, by omega⟩ <;> simp [u8l_len])]
  simp only [u8l_app, u8l_keep, ite_self]

theorem slc_u8 {P : Program} {t : TypeId} (ht : sl8 P t = true) (bx : Bx) (b : List UInt8) (f : Bool) (k k' : IntKind) (lo hi : Nat) (h1 : lo ≤ hi) (h2 : hi ≤ b.length) :
    sliceA P bx t (.sl b.length (u8l b) f) (some (.v (.int k lo))) (some (.v (.int k' hi))) none = some (.sl (hi - lo) (u8l ((b.drop lo).take (hi - lo))) f) := by
  obtain ⟨h, e, z, he, hs, -⟩ := sl8_spec ht
  unfold sliceA
  simp only [h, if_true, he, hs, Option.bind_some]
  unfold hiA loA bndA
  simp only [if_pos (show (0 : Int) ≤ (hi : Int) ∧ (hi : Int) ≤ (b.length : Int) from ⟨by omega, by omega⟩), Option.bind_some, Int.toNat_natCast, if_pos (show (0 : Int) ≤ (lo : Int) ∧ (lo : Int) ≤ (hi : Int) from ⟨by omega, by omega⟩), Nat.mul_one, u8l_drop, u8l_take]

theorem slc_u8h {P : Program} {t : TypeId} (ht : sl8 P t = true) (bx : Bx) (b : List UInt8) (f : Bool) (k' : IntKind) (hi : Nat) (h2 : hi ≤ b.length) :
    sliceA P bx t (.sl b.length (u8l b) f) none (some (.v (.int k' hi))) none = some (.sl hi (u8l (b.take hi)) f) := by
  obtain ⟨h, e, z, he, hs, -⟩ := sl8_spec ht
  unfold sliceA
  simp only [h, if_true, he, hs, Option.bind_some]
  unfold hiA loA bndA
  simp only [if_pos (show (0 : Int) ≤ (hi : Int) ∧ (hi : Int) ≤ (b.length : Int) from ⟨by omega, by omega⟩), Option.bind_some, Int.toNat_natCast, Nat.mul_one, Nat.zero_mul, List.drop_zero, Nat.sub_zero, u8l_take]

theorem slc_u8l {P : Program} {t : TypeId} (ht : sl8 P t = true) (bx : Bx) (b : List UInt8) (f : Bool) (k : IntKind) (lo : Nat) (h2 : lo ≤ b.length) :
    sliceA P bx t (.sl b.length (u8l b) f) (some (.v (.int k lo))) none none = some (.sl (b.length - lo) (u8l (b.drop lo)) f) := by
  obtain ⟨h, e, z, he, hs, -⟩ := sl8_spec ht
  unfold sliceA
  simp only [h, if_true, he, hs, Option.bind_some]
  unfold hiA loA bndA
  simp only [if_pos (show (0 : Int) ≤ (lo : Int) ∧ (lo : Int) ≤ (b.length : Int) from ⟨by omega, by omega⟩), Option.bind_some, Int.toNat_natCast, Nat.mul_one, u8l_drop]
  rw [u8l_take, List.take_of_length_le (by simp)]

theorem slc_min {P : Program} {t : TypeId} (ht : sl8 P t = true) (bx : Bx) (b : List UInt8) (f : Bool) (k' : IntKind) (c : Nat) :
    sliceA P bx t (byt f b) none (some (.v (.int k' (min (b.length : Int) (c : Int))))) none = some (byt f (b.take c)) := by
  have h := slc_u8h ht bx b f k' (min b.length c) (by omega)
  rw [show ((min b.length c : Nat) : Int) = min (b.length : Int) (c : Int) by omega] at h
  rw [h]
  unfold byt
  rw [List.length_take, Nat.min_comm c]
  congr 2
  rw [List.take_eq_take_iff.2 (show min (min b.length c) b.length = min c b.length by omega)]

theorem frz_byt (bx : Bx) (d : Nat) (f : Bool) (b : List UInt8) : frz bx true (d + 1) (byt f b) = byt f b := by cases f <;> rfl
theorem frz_b8 {bx : Bx} {k d : Nat} {b : List UInt8} {m : Nat} (f : Bool) (h : bx[k]? = some (u8l b)) (hm : m = b.length) : frz bx f (d + 2) (.bsl k 0 m 1) = byt f b := by
  subst hm
  show (match bx[k]? with | some l => AV.sl b.length (((l.drop 0).take (b.length * 1)).map (frz bx f (d + 1))) f | none => .junk) = _
  rw [h]
  simp only [List.drop_zero, Nat.mul_one, u8l_take, List.take_length, u8l_frz]
theorem byts_keep (p : Nat → Bool) (g : Bool) (l : List (List UInt8)) : (l.map (byt g)).map (AV.keep p) = l.map (byt g) := by
  rw [List.map_map]
  rfl
theorem byts_frz (bx : Bx) (d : Nat) (g : Bool) (l : List (List UInt8)) : (l.map (byt g)).map (frz bx true (d + 1)) = l.map (byt g) := by
  rw [List.map_map]
  refine List.map_congr_left fun b _ => frz_byt bx d g b

/-- one byte of a box of bytes is set -/
theorem st_b8 {P : Program} {t : TypeId} (ht : szA P t = some 1) (bx : Bx) (k i : Nat) (b : List UInt8) (x : UInt8) (h : bx[k]? = some (u8l b)) (hi : i < b.length) : stA P t bx (.bp k i) (u8 x) = some (.v undef, bx.set k (u8l (b.set i x))) := by
  have hs : storeA P t bx (.bp k i) (u8 x) = some (bx.set k (u8l (b.set i x))) := by
    unfold storeA
    simp only [ht, h, Option.bind_some]
    rw [if_pos (by refine ⟨rfl, rfl, ?_⟩; rw [u8l_len]; omega)]
    show some (bx.set k ((u8l b).set i (u8 x))) = _
    rw [u8l_set]
  unfold stA
  rw [hs]
  rfl
/-- one byte of a box of bytes is read -/
theorem ld_b8 {P : Program} {t : TypeId} (ht : szA P t = some 1) (ha : agA P t = some false) (bx : Bx) (k i : Nat) (b : List UInt8) (h : bx[k]? = some (u8l b)) (hi : i < b.length) : loadA P t bx (.bp k i) = some (u8 b[i]) := by
  unfold loadA partA
  simp only [h, ht, ha, Option.bind_some]
  rw [u8l_get, List.getElem?_eq_getElem hi]
  rfl
theorem of_u8 (x : UInt8) : BitVec.ofInt 8 (x.toNat : Int) = x.toBitVec := by
  apply BitVec.eq_of_toNat_eq
  have h : x.toNat = x.toBitVec.toNat := rfl
  rw [h]
  simp
theorem wrap_u8 (b : BitVec 8) : IntKind.u8.wrap (b.toNat : Int) = ((UInt8.ofBitVec b).toNat : Int) := by
  rw [wrap8]
  have := b.isLt
  have h : (UInt8.ofBitVec b).toNat = b.toNat := rfl
  omega
theorem xor8 (x y : UInt8) : bitI .xor .u8 (x.toNat : Int) (y.toNat : Int) = ((x ^^^ y).toNat : Int) := by
  unfold bitI
  simp only [IntKind.bits, of_u8]
  exact wrap_u8 _
theorem and8 (x y : UInt8) : bitI .and .u8 (x.toNat : Int) (y.toNat : Int) = ((x &&& y).toNat : Int) := by
  unfold bitI
  simp only [IntKind.bits, of_u8]
  exact wrap_u8 _
theorem or8 (x y : UInt8) : bitI .or .u8 (x.toNat : Int) (y.toNat : Int) = ((x ||| y).toNat : Int) := by
  unfold bitI
  simp only [IntKind.bits, of_u8]
  exact wrap_u8 _
theorem andNot8 (x y : UInt8) : bitI .andNot .u8 (x.toNat : Int) (y.toNat : Int) = ((x &&& ~~~ y).toNat : Int) := by
  unfold bitI
  simp only [IntKind.bits, of_u8]
  exact wrap_u8 _

/-! ## slices whose elements are one cell -/
def sl1 (P : Program) (t : TypeId) : Bool := isSl P t && (match elA P t with | some e => szA P e == some 1 && ((byA P e).map fun n => decide (0 < n ∧ n ≤ 2 ^ 12)) == some true && ((zcA P e).map (·.length)) == some 1 && agA P e == some false | none => false)

theorem sl1_spec {P : Program} {t : TypeId} (h : sl1 P t = true) : isSl P t = true ∧ ∃ e z y, elA P t = some e ∧ szA P e = some 1 ∧ byA P e = some y ∧ 0 < y ∧ y ≤ 2 ^ 12 ∧ zcA P e = some [z] ∧ agA P e = some false := by
  unfold sl1 at h
  rw [Bool.and_eq_true] at h
  obtain ⟨h1, h2⟩ := h
  split at h2
  · rename_i e he
    simp only [Bool.and_eq_true, beq_iff_eq, Option.map_eq_some_iff, decide_eq_true_eq] at h2
    obtain ⟨⟨⟨h3, y, h4, h6, h7⟩, z, hz, hl⟩, h5⟩ := h2
    match z, hl with
    | [z], _ => exact ⟨h1, e, z, y, he, h3, h4, h6, h7, hz, h5⟩
  · cases h2

theorem idx_sl1 {P : Program} {t : TypeId} (ht : sl1 P t = true) (l : List AV) (n : Nat) (hn : n = l.length) (f : Bool) (k : IntKind) (i : Nat) (hi : i < l.length) :
    indexAddrA P t (.sl n l f) (.v (.int k i)) = some (.ip (l[i] :: l.drop (i + 1)) f) := by
  obtain ⟨h1, e, z, y, h2, h3, -⟩ := sl1_spec ht
  subst hn
  unfold indexAddrA
  simp only [h1, if_true, h2, h3, Option.bind_some]
  simp only [idxI]
  rw [if_pos ⟨by omega, by omega⟩]
  simp only [Option.bind_some, Nat.mul_one, Nat.le_refl, if_true, Nat.zero_add, Int.toNat_natCast]
  rw [List.drop_eq_getElem_cons hi]

theorem appV1 {P : Program} {t : TypeId} (ht : sl1 P t = true) (n0 : Nat) (bx : Bx) (y : AV) (b : Nat) (c d : List AV) (m : Nat) (hb : bx[b]? = some c) (h0 : n0 ≤ b) (hy : readA bx y = some (d.length, d)) (hd : d.length < 2 ^ 32) (hc : c.length < 2 ^ 32) (hm : m = c.length) :
    appA P n0 bx t (.bsl b 0 m 1) y = some (.bsl b 0 (c.length + d.length) 1, AV.keep (· != b), (bx.map fun l => l.map (AV.keep (· != b))).set b ((c ++ d).map (AV.keep (· != b)))) := by
  obtain ⟨h1, e, z, q, h2, h3, h4, h6, h7, h5, -⟩ := sl1_spec ht
  subst hm
  unfold appA
  simp only [h1, if_true, h2, h3, h4, h5, hy, Option.bind_some]
  have hq1 : d.length * q ≤ 2 ^ 32 * 2 ^ 12 := Nat.mul_le_mul (by omega) h7
  have hq2 : (c.length + d.length) * q ≤ (2 ^ 33) * 2 ^ 12 := Nat.mul_le_mul (by omega) h7
  rw [if_pos ⟨by omega, by omega, rfl, h6, by omega, by omega⟩]
  simp only [hb, Option.bind_some]
  rw [if_pos (by refine ⟨?_, h0, ?_, ?_, by omega⟩ <;> simp)]
  simp only [ite_self]

theorem callV_fn (E : FnA) (md : FuncId → Md) (bx : Bx) (args : List AV) (f : FuncId) : callV E md bx args (.fn f [] []) = callA E md bx f args := by simp [callV]

/-- the steps' equations, as one -/
theorem stp :
    (∀ (bx : Bx) (r : AV), pv bx (some r) = some (r, bx)) ∧
    (∀ (bx : Bx) (x : Option (AV × Bx)), gsel true bx x (.v (.bool true)) = x) ∧
    (∀ (bx : Bx) (x : Option (AV × Bx)), gsel true bx x (.v (.bool false)) = some (.v undef, bx)) ∧
    (∀ (bx : Bx) (x : Option (AV × Bx)), gsel false bx x (.v (.bool false)) = x) ∧
    (∀ (bx : Bx) (x : Option (AV × Bx)), gsel false bx x (.v (.bool true)) = some (.v undef, bx)) ∧
    (∀ (bx : Bx) (x : Option (AV × Bx)) (w : Bool), gsel w bx x (.v undef) = some (.v undef, bx)) ∧
    (∀ a b : AV, pickA (.v (.bool true)) a b = some a) ∧ (∀ a b : AV, pickA (.v (.bool false)) a b = some b) ∧
    (∀ c p q : Bool, pickA (.v (.bool c)) (.v (.bool p)) (.v (.bool q)) = some (.v (.bool (if c then p else q)))) ∧
    (∀ b : Bool, unA .not (.v (.bool b)) = some (.v (.bool !b))) ∧
    (∀ (a : AV) (l : List AV), tupA (.tup (a :: l)) 0 = some a) ∧ (∀ (a b : AV) (l : List AV), tupA (.tup (a :: b :: l)) 1 = some b) ∧ (∀ (a b c : AV) (l : List AV), tupA (.tup (a :: b :: c :: l)) 2 = some c) ∧
    (∀ (k k' : IntKind) (n c : Int), minL false (.v (.int k n)) [.v (.int k' c)] = some (.v (.int k (min n c)))) ∧ (∀ (k k' : IntKind) (n c : Int), minL true (.v (.int k n)) [.v (.int k' c)] = some (.v (.int k (max n c)))) ∧
    (∀ (bx : Bx) (d : Nat) (f : Bool) (b : List UInt8), frz bx true (d + 1) (byt f b) = byt f b) ∧
    (∀ (P : Program) (t : TypeId) (k : IntKind) (m n : Int), binA P .add t (.v (.int k m)) (.v (.int k n)) = some (.v (.int k (k.wrap (m + n))))) ∧
    (∀ (P : Program) (t : TypeId) (k : IntKind) (m n : Int), binA P .sub t (.v (.int k m)) (.v (.int k n)) = some (.v (.int k (k.wrap (m - n))))) ∧
    (∀ (P : Program) (t : TypeId) (k : IntKind) (m n : Int), binA P .mul t (.v (.int k m)) (.v (.int k n)) = some (.v (.int k (k.wrap (m * n))))) ∧
    (∀ (P : Program) (t : TypeId) (k : IntKind) (m : Int), binA P .quo t (.v (.int k m)) (.v (.int k 2)) = some (.v (.int k (k.wrap (m.tdiv 2))))) ∧ (∀ (P : Program) (t : TypeId) (k : IntKind) (m : Int), binA P .rem t (.v (.int k m)) (.v (.int k 2)) = some (.v (.int k (m.tmod 2)))) ∧
    (∀ (P : Program) (t : TypeId) (k : IntKind) (m : Int), binA P .quo t (.v (.int k m)) (.v (.int k 3)) = some (.v (.int k (k.wrap (m.tdiv 3))))) ∧ (∀ (P : Program) (t : TypeId) (k : IntKind) (m : Int), binA P .rem t (.v (.int k m)) (.v (.int k 3)) = some (.v (.int k (m.tmod 3)))) ∧
    (∀ (P : Program) (t : TypeId) (k : IntKind) (m : Int), binA P .quo t (.v (.int k m)) (.v (.int k 4)) = some (.v (.int k (k.wrap (m.tdiv 4))))) ∧ (∀ (P : Program) (t : TypeId) (k : IntKind) (m : Int), binA P .rem t (.v (.int k m)) (.v (.int k 4)) = some (.v (.int k (m.tmod 4)))) ∧
    (∀ (P : Program) (t : TypeId) (k : IntKind) (m : Int), binA P .quo t (.v (.int k m)) (.v (.int k 6)) = some (.v (.int k (k.wrap (m.tdiv 6))))) ∧ (∀ (P : Program) (t : TypeId) (k : IntKind) (m : Int), binA P .rem t (.v (.int k m)) (.v (.int k 6)) = some (.v (.int k (m.tmod 6)))) ∧
    (∀ (P : Program) (t : TypeId) (k : IntKind) (m : Int), binA P .quo t (.v (.int k m)) (.v (.int k 8)) = some (.v (.int k (k.wrap (m.tdiv 8))))) ∧ (∀ (P : Program) (t : TypeId) (k : IntKind) (m : Int), binA P .rem t (.v (.int k m)) (.v (.int k 8)) = some (.v (.int k (m.tmod 8)))) ∧
    (∀ (P : Program) (t : TypeId) (k : IntKind) (m : Int), binA P .quo t (.v (.int k m)) (.v (.int k 10)) = some (.v (.int k (k.wrap (m.tdiv 10))))) ∧ (∀ (P : Program) (t : TypeId) (k : IntKind) (m : Int), binA P .rem t (.v (.int k m)) (.v (.int k 10)) = some (.v (.int k (m.tmod 10)))) ∧
    (∀ (P : Program) (t : TypeId) (k : IntKind) (m : Int), binA P .quo t (.v (.int k m)) (.v (.int k 18)) = some (.v (.int k (k.wrap (m.tdiv 18))))) ∧ (∀ (P : Program) (t : TypeId) (k : IntKind) (m : Int), binA P .rem t (.v (.int k m)) (.v (.int k 18)) = some (.v (.int k (m.tmod 18)))) ∧
    (∀ (P : Program) (t : TypeId) (k : IntKind) (m : Int), binA P .quo t (.v (.int k m)) (.v (.int k 27)) = some (.v (.int k (k.wrap (m.tdiv 27))))) ∧ (∀ (P : Program) (t : TypeId) (k : IntKind) (m : Int), binA P .rem t (.v (.int k m)) (.v (.int k 27)) = some (.v (.int k (m.tmod 27)))) ∧
    (∀ (P : Program) (t : TypeId) (k : IntKind) (m : Int), binA P .quo t (.v (.int k m)) (.v (.int k 64)) = some (.v (.int k (k.wrap (m.tdiv 64))))) ∧ (∀ (P : Program) (t : TypeId) (k : IntKind) (m : Int), binA P .rem t (.v (.int k m)) (.v (.int k 64)) = some (.v (.int k (m.tmod 64)))) ∧
    (∀ (P : Program) (t : TypeId) (k : IntKind) (m : Int), binA P .quo t (.v (.int k m)) (.v (.int k 256)) = some (.v (.int k (k.wrap (m.tdiv 256))))) ∧ (∀ (P : Program) (t : TypeId) (k : IntKind) (m : Int), binA P .rem t (.v (.int k m)) (.v (.int k 256)) = some (.v (.int k (m.tmod 256)))) ∧
    (∀ (P : Program) (t : TypeId) (k : IntKind) (m : Int), binA P .quo t (.v (.int k m)) (.v (.int k 301)) = some (.v (.int k (k.wrap (m.tdiv 301))))) ∧ (∀ (P : Program) (t : TypeId) (k : IntKind) (m : Int), binA P .rem t (.v (.int k m)) (.v (.int k 301)) = some (.v (.int k (m.tmod 301)))) ∧
    (∀ (P : Program) (t : TypeId) (k : IntKind) (m : Int), binA P .quo t (.v (.int k m)) (.v (.int k 65536)) = some (.v (.int k (k.wrap (m.tdiv 65536))))) ∧ (∀ (P : Program) (t : TypeId) (k : IntKind) (m : Int), binA P .rem t (.v (.int k m)) (.v (.int k 65536)) = some (.v (.int k (m.tmod 65536)))) ∧
    (∀ (P : Program) (t : TypeId) (k : IntKind) (m : Int), binA P .quo t (.v (.int k m)) (.v (.int k 16777216)) = some (.v (.int k (k.wrap (m.tdiv 16777216))))) ∧ (∀ (P : Program) (t : TypeId) (k : IntKind) (m : Int), binA P .rem t (.v (.int k m)) (.v (.int k 16777216)) = some (.v (.int k (m.tmod 16777216)))) ∧
    (∀ (P : Program) (t : TypeId) (k : IntKind) (m n : Int), binA P .eql t (.v (.int k m)) (.v (.int k n)) = some (.v (.bool (m == n)))) ∧
    (∀ (P : Program) (t : TypeId) (k : IntKind) (m n : Int), binA P .neq t (.v (.int k m)) (.v (.int k n)) = some (.v (.bool (m != n)))) ∧
    (∀ (P : Program) (t : TypeId) (k : IntKind) (m n : Int), binA P .lss t (.v (.int k m)) (.v (.int k n)) = some (.v (.bool (decide (m < n))))) ∧
    (∀ (P : Program) (t : TypeId) (k : IntKind) (m n : Int), binA P .leq t (.v (.int k m)) (.v (.int k n)) = some (.v (.bool (decide (m ≤ n))))) ∧
    (∀ (P : Program) (t : TypeId) (k : IntKind) (m n : Int), binA P .gtr t (.v (.int k m)) (.v (.int k n)) = some (.v (.bool (decide (n < m))))) ∧
    (∀ (P : Program) (t : TypeId) (k : IntKind) (m n : Int), binA P .geq t (.v (.int k m)) (.v (.int k n)) = some (.v (.bool (decide (n ≤ m))))) ∧
    (∀ (P : Program) (t : TypeId) (k : IntKind) (m n : Int), binA P .and t (.v (.int k m)) (.v (.int k n)) = some (.v (.int k (bitI .and k m n)))) ∧
    (∀ (P : Program) (t : TypeId) (k : IntKind) (m n : Int), binA P .or t (.v (.int k m)) (.v (.int k n)) = some (.v (.int k (bitI .or k m n)))) ∧
    (∀ (P : Program) (t : TypeId) (k : IntKind) (m n : Int), binA P .xor t (.v (.int k m)) (.v (.int k n)) = some (.v (.int k (bitI .xor k m n)))) ∧
    (∀ (P : Program) (t : TypeId) (k : IntKind) (m n : Int), binA P .andNot t (.v (.int k m)) (.v (.int k n)) = some (.v (.int k (bitI .andNot k m n)))) ∧
    (∀ (P : Program) (t : TypeId) (k k' : IntKind) (m : Int) (j : Nat), binA P .shl t (.v (.int k m)) (.v (.int k' (j : Int))) = some (.v (.int k (k.wrap (m * 2 ^ (min j k.bits)))))) ∧
    (∀ (P : Program) (t : TypeId) (k k' : IntKind) (m : Int) (j : Nat), binA P .shr t (.v (.int k m)) (.v (.int k' (j : Int))) = some (.v (.int k (m.fdiv (2 ^ (min j k.bits)))))) ∧
    (∀ (E : FnA) (bx : Bx) (f : FuncId) (args : List AV), callA E md0 bx f args = (cf E f (args.map (frz bx true 6))).map fun r => (r, bx)) ∧
    (∀ (bx : Bx) (d : Nat) (y : Value), frz bx true (d + 1) (.v y) = .v y) ∧
    (∀ (E : FnA) (md : FuncId → Md) (bx : Bx) (args : List AV) (f : FuncId), callV E md bx args (.fn f [] []) = callA E md bx f args) ∧
    (∀ {α β : Type} (f : α → β) (a : α) (l : List α), (a :: l).map f = f a :: l.map f) ∧ (∀ {α β : Type} (f : α → β), ([] : List α).map f = []) ∧
    (∀ {α β : Type} (f : α → β) (a : α), (some a).map f = some (f a)) ∧ (∀ a : Int, (a == a) = true) ∧ (∀ a : Int, (a != a) = false) ∧
    (∀ {α : Type}, ([] : List α).length = 0) ∧ (∀ {α : Type} (a : α) (l : List α), (a :: l).length = l.length + 1) ∧ (∀ {α : Type} (l : List α), [] ++ l = l) ∧ (∀ {α : Type} (a : α) (l m : List α), a :: l ++ m = a :: (l ++ m)) :=
  ⟨pv_some, gsel_tt, gsel_tf, gsel_ff, gsel_ft, gsel_u, pick_t, pick_f, pick_b, not_v, tup0, tup1, tup2, min_v, max_v, frz_byt, fun P t k m n => bin_add P k m n t, fun P t k m n => bin_sub P k m n t, fun P t k m n => bin_mul P k m n t,
   fun P t k m => bin_quo P k m 2 t (by decide), fun P t k m => bin_rem P k m 2 t (by decide), fun P t k m => bin_quo P k m 3 t (by decide), fun P t k m => bin_rem P k m 3 t (by decide), fun P t k m => bin_quo P k m 4 t (by decide), fun P t k m => bin_rem P k m 4 t (by decide), fun P t k m => bin_quo P k m 6 t (by decide), fun P t k m => bin_rem P k m 6 t (by decide), fun P t k m => bin_quo P k m 8 t (by decide), fun P t k m => bin_rem P k m 8 t (by decide), fun P t k m => bin_quo P k m 10 t (by decide), fun P t k m => bin_rem P k m 10 t (by decide), fun P t k m => bin_quo P k m 18 t (by decide), fun P t k m => bin_rem P k m 18 t (by decide), fun P t k m => bin_quo P k m 27 t (by decide), fun P t k m => bin_rem P k m 27 t (by decide), fun P t k m => bin_quo P k m 64 t (by decide), fun P t k m => bin_rem P k m 64 t (by decide), fun P t k m => bin_quo P k m 256 t (by decide), fun P t k m => bin_rem P k m 256 t (by decide), fun P t k m => bin_quo P k m 301 t (by decide), fun P t k m => bin_rem P k m 301 t (by decide), fun P t k m => bin_quo P k m 65536 t (by decide), fun P t k m => bin_rem P k m 65536 t (by decide), fun P t k m => bin_quo P k m 16777216 t (by decide), fun P t k m => bin_rem P k m 16777216 t (by decide), fun P t k m n => bin_eql P k m n t, fun P t k m n => bin_neq P k m n t, fun P t k m n => bin_lss P k m n t, fun P t k m n => bin_leq P k m n t,
   fun P t k m n => bin_gtr P k m n t, fun P t k m n => bin_geq P k m n t, fun P t k m n => bin_and P k m n t, fun P t k m n => bin_or P k m n t, fun P t k m n => bin_xor P k m n t, fun P t k m n => bin_andNot P k m n t, fun P t k k' m j => bin_shl P k k' m t j, fun P t k k' m j => bin_shr P k k' m t j,
   fun E bx f args => call_f bx E f args, fun bx d y => frz_v bx true d y, callV_fn, fun _ _ _ => rfl, fun _ => rfl, fun _ _ => rfl, fun a => by simp, fun a => by simp, rfl, fun _ _ => rfl, fun _ => rfl, fun _ _ _ => rfl⟩

/-- bytes out of a law's argument -/
theorem fit_bytes {a : AV} (h : Fit (.sl [.int .u8]) a) : ∃ b : List UInt8, b.length ≤ maxLen ∧ a = .sl b.length (u8l b) true := by
  cases h with
  | sl row n l hn hl h =>
    simp only [List.length_cons, List.length_nil, Nat.zero_add, Nat.mul_one] at hl
    subst hl
    have : ∃ b : List UInt8, l = u8l b := by
      clear hn
      induction l with
      | nil => exact ⟨[], rfl⟩
      | cons x l ih =>
        obtain ⟨b, rfl⟩ := ih (fun i y c hy hc => h (i + 1) y c (by simpa using hy) (by simpa [Nat.mod_one] using hc))
        have := h 0 x (.int .u8) rfl (by simp)
        cases this with
        | int k n hw =>
          simp only [Lit.wf, Bool.and_eq_true, decide_eq_true_eq] at hw
          have hn : 0 ≤ n ∧ n ≤ 255 := by simpa [IntKind.min, IntKind.max, IntKind.signed, IntKind.bits] using hw
          refine ⟨UInt8.ofNat n.toNat :: b, ?_⟩
          show _ = u8 _ :: u8l b
          congr 1
          unfold u8
          congr 2
          rw [UInt8.toNat_ofNat', Nat.mod_eq_of_lt (by omega)]
          omega
    obtain ⟨b, rfl⟩ := this
    rw [u8l_len] at hn ⊢
    exact ⟨b, hn, rfl⟩

/-- an array of bytes out of a law's argument -/
theorem fits_bytes : ∀ (n : Nat) {l : List AV}, ShFits (List.replicate n [.int .u8]).flatten l → ∃ b : List UInt8, b.length = n ∧ l = u8l b
  | 0, l, h => ⟨[], rfl, List.length_eq_zero_iff.1 (by simpa using h.1)⟩
  | n + 1, l, h => by
    rw [List.replicate_succ, List.flatten_cons] at h
    match l, h with
    | [], h => simp [ShFits] at h
    | x :: l, h =>
      obtain ⟨b, hb, rfl⟩ := fits_bytes n (l := l) ⟨by simpa using h.1, fun i y c hy hc => h.2 (i + 1) y c (by simpa using hy) (by simpa using hc)⟩
      have := h.2 0 x (.int .u8) rfl (by simp)
      cases this with
      | int k n hw =>
        simp only [Lit.wf, Bool.and_eq_true, decide_eq_true_eq] at hw
        have hn : 0 ≤ n ∧ n ≤ 255 := by simpa [IntKind.min, IntKind.max, IntKind.signed, IntKind.bits] using hw
        refine ⟨UInt8.ofNat n.toNat :: b, by simp [hb], ?_⟩
        show _ = u8 _ :: u8l b
        congr 1
        unfold u8
        congr 2
        rw [UInt8.toNat_ofNat', Nat.mod_eq_of_lt (by omega)]
        omega

theorem arg1 {P : Program} {t : TypeId} {a : AV} {c : Sh} (h : ArgFit P t a) (hs : shp P 8 t = some [c]) (ha : agA P t = some false) : Fit c a := by
  obtain ⟨row, h1, h2⟩ := h
  rw [hs, Option.some.injEq] at h1
  subst h1
  rw [if_neg (by rw [ha]; simp)] at h2
  exact h2.2 0 a c rfl rfl
theorem argN {P : Program} {t : TypeId} {a : AV} {row : List Sh} (h : ArgFit P t a) (hs : shp P 8 t = some row) (ha : agA P t = some true) : ∃ l, a = .agg l ∧ ShFits row l := by
  obtain ⟨row', h1, h2⟩ := h
  rw [hs, Option.some.injEq] at h1
  subst h1
  rw [if_pos ha] at h2
  exact h2
theorem fit_int {k : IntKind} {a : AV} (h : Fit (.int k) a) : ∃ n, a = .v (.int k n) ∧ (Lit.int k n).wf = true := by
  cases h with
  | int k n hw => exact ⟨n, rfl, hw⟩
theorem fit_bool {a : AV} (h : Fit .bool a) : ∃ b, a = .v (.bool b) := by
  cases h with
  | bool b => exact ⟨b, rfl⟩
theorem fit_str {a : AV} (h : Fit .str a) : ∃ s, a = .v (.string s) ∧ s.size ≤ maxLen := by
  cases h with
  | str s hs => exact ⟨s, rfl, hs⟩
theorem fit_i64 {a : AV} (h : Fit (.int .i64) a) : ∃ n : Int, a = .v (.int .i64 n) ∧ -9223372036854775808 ≤ n ∧ n < 2 ^ 63 := by
  obtain ⟨n, rfl, hw⟩ := fit_int h
  simp only [Lit.wf, Bool.and_eq_true, decide_eq_true_eq] at hw
  have hn : -9223372036854775808 ≤ n ∧ n ≤ 9223372036854775807 := by simpa [IntKind.min, IntKind.max, IntKind.signed, IntKind.bits] using hw
  exact ⟨n, rfl, by omega, by omega⟩
theorem fit_u8 {a : AV} (h : Fit (.int .u8) a) : ∃ x : UInt8, a = u8 x := by
  obtain ⟨n, rfl, hw⟩ := fit_int h
  simp only [Lit.wf, Bool.and_eq_true, decide_eq_true_eq] at hw
  have hn : 0 ≤ n ∧ n ≤ 255 := by simpa [IntKind.min, IntKind.max, IntKind.signed, IntKind.bits] using hw
  refine ⟨UInt8.ofNat n.toNat, ?_⟩
  unfold u8
  rw [UInt8.toNat_ofNat', Nat.mod_eq_of_lt (by omega)]
  congr 2
  omega
theorem fit_u16 {a : AV} (h : Fit (.int .u16) a) : ∃ n : Nat, a = .v (.int .u16 n) ∧ n < 65536 := by
  obtain ⟨n, rfl, hw⟩ := fit_int h
  simp only [Lit.wf, Bool.and_eq_true, decide_eq_true_eq] at hw
  have hn : 0 ≤ n ∧ n ≤ 65535 := by simpa [IntKind.min, IntKind.max, IntKind.signed, IntKind.bits] using hw
  exact ⟨n.toNat, by congr 2; omega, by omega⟩
theorem fit_u32 {a : AV} (h : Fit (.int .u32) a) : ∃ n : Nat, a = .v (.int .u32 n) ∧ n < 4294967296 := by
  obtain ⟨n, rfl, hw⟩ := fit_int h
  simp only [Lit.wf, Bool.and_eq_true, decide_eq_true_eq] at hw
  have hn : 0 ≤ n ∧ n ≤ 4294967295 := by simpa [IntKind.min, IntKind.max, IntKind.signed, IntKind.bits] using hw
  exact ⟨n.toNat, by congr 2; omega, by omega⟩
end Go.Sy
