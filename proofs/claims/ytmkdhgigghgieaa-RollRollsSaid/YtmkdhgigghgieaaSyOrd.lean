/-
  What the look at a region that draws its order tells of the order.
-/
import Derived.Test.YtmkdhgigghgieaaSySeq
namespace Go.Sy

def bstep (acc : Array Nat) (o : Oper) : Array Nat := acc.push (o.after.foldl (fun s e => if Region.binds .any e then s ||| 2 ^ e.on ||| acc.getD e.on 0 else s) 0)

theorem foldl_bits {acc : Array Nat} {i : Nat} : ∀ (l : List Edge) (s : Nat), (l.foldl (fun s e => if Region.binds .any e then s ||| 2 ^ e.on ||| acc.getD e.on 0 else s) s).testBit i = true →
    s.testBit i = true ∨ ∃ e ∈ l, Region.binds .any e = true ∧ (e.on = i ∨ (acc.getD e.on 0).testBit i = true)
  | [], s, h => .inl h
  | e :: l, s, h => by
    rw [List.foldl_cons] at h
    rcases foldl_bits l _ h with h | ⟨e', he, h1, h2⟩
    · split at h
      · rename_i hb
        simp only [Nat.testBit_or, Bool.or_eq_true] at h
        rcases h with (h | h) | h
        · exact .inl h
        · right
          refine ⟨e, by simp, hb, .inl ?_⟩
          rw [Nat.testBit_two_pow] at h
          simpa using h
        · exact .inr ⟨e, by simp, hb, .inr h⟩
      · exact .inl h
    · exact .inr ⟨e', by simp [he], h1, h2⟩

theorem before_list : ∀ (l : List Oper) (acc : Array Nat), (∀ j, j < acc.size → (l.foldl bstep acc)[j]? = acc[j]?) ∧ (l.foldl bstep acc).size = acc.size + l.length ∧
    ∀ (k : Nat) (o : Oper) (i : Nat), l[k]? = some o → (((l.foldl bstep acc)).getD (acc.size + k) 0).testBit i = true → ∃ e ∈ o.after, Region.binds .any e = true ∧ (e.on = i ∨ (e.on < acc.size + k ∧ ((l.foldl bstep acc).getD e.on 0).testBit i = true))
  | [], acc => ⟨fun _ _ => rfl, by simp, fun k o i h => by simp at h⟩
  | o :: l, acc => by
    obtain ⟨h1, h2, h3⟩ := before_list l (bstep acc o)
    have hs : (bstep acc o).size = acc.size + 1 := by simp [bstep]
    have hlow : ∀ j, j < acc.size → ((o :: l).foldl bstep acc)[j]? = acc[j]? := by
      intro j hj
      rw [List.foldl_cons, h1 j (by omega)]
      simp [bstep, Array.getElem?_push_lt, hj, Array.getElem?_eq_getElem]
    refine ⟨hlow, by rw [List.foldl_cons, h2, hs]; simp; omega, ?_⟩
    intro k o' i ho hb
    rcases k with _ | k
    · simp only [List.getElem?_cons_zero, Option.some.injEq] at ho
      subst ho
      rw [List.foldl_cons, Nat.add_zero, Array.getD_eq_getD_getElem?, h1 _ (by omega)] at hb
      have : (bstep acc o)[acc.size]? = some (o.after.foldl (fun s e => if Region.binds .any e then s ||| 2 ^ e.on ||| acc.getD e.on 0 else s) 0) := by simp [bstep]
      rw [this, Option.getD_some, ← Array.foldl_toList] at hb
      rcases foldl_bits _ _ hb with h | ⟨e, he, g1, g2⟩
      · simp at h
      · refine ⟨e, by simpa using he, g1, g2.imp id fun g => ?_⟩
        have hlt : e.on < acc.size := by
          rcases Nat.lt_or_ge e.on acc.size with h | h
          · exact h
          · rw [Array.getD_eq_getD_getElem?, Array.getElem?_eq_none h] at g; simp at g
        refine ⟨by omega, ?_⟩
        rw [Array.getD_eq_getD_getElem?, hlow _ hlt, ← Array.getD_eq_getD_getElem?]
        exact g
    · rw [List.foldl_cons] at hb ⊢
      obtain ⟨e, he, g1, g2⟩ := h3 k o' i (by simpa using ho) (by rw [hs]; rw [show acc.size + 1 + k = acc.size + (k + 1) by omega]; exact hb)
      exact ⟨e, he, g1, g2.imp id fun g => ⟨by rw [hs] at g; omega, g.2⟩⟩

/-- what the bits tell stands ahead -/
theorem before_spec {ops : Array Oper} {L : Nat → Prop} : ∀ (j : Nat) (o : Oper) (i : Nat), ops[j]? = some o → (((Region.before ops).getD j 0).testBit i) = true →
    (∀ (k : Nat) (o : Oper), ops[k]? = some o → L k → ∀ e ∈ o.after, Region.binds .any e = true → L e.on) → (∀ e ∈ o.after, Region.binds .any e = true → L e.on) → L i := by
  have hB : Region.before ops = ops.toList.foldl bstep #[] := by
    unfold Region.before
    rw [← Array.foldl_toList]
    rfl
  obtain ⟨_, _, h3⟩ := before_list ops.toList #[]
  intro j
  induction j using Nat.strongRecOn with
  | _ j ih =>
    intro o i ho hb hcl hd
    rw [hB] at hb
    obtain ⟨e, he, g1, g2⟩ := h3 j o i (by simpa using ho) (by simpa using hb)
    rcases g2 with rfl | ⟨hlt, g2⟩
    · exact hd e he g1
    · have hlt : e.on < j := by simpa using hlt
      have hon : ∃ o', ops[e.on]? = some o' := by
        have := (Array.getElem?_eq_some_iff.mp ho).1
        exact ⟨_, Array.getElem?_eq_getElem (by omega)⟩
      obtain ⟨o', ho'⟩ := hon
      exact ih e.on hlt o' i ho' (by rw [hB]; exact g2) hcl (hcl _ _ ho' (hd e he g1))

theorem lexFrom_spec {ops : Array Oper} : ∀ (f k : Nat) (listed : Array Bool), k + f = ops.size → listed.size = ops.size → (∀ i, i < ops.size → listed.getD i true = decide (i < k)) → Region.lexFrom .any ops f k listed = true →
    ∀ (j : Nat) (o : Oper), k ≤ j → ops[j]? = some o → (∀ e ∈ o.after, Region.binds .any e = true → e.on < j) ∧
      ∀ (i : Nat) (o' : Oper), j < i → ops[i]? = some o' → (∀ e ∈ o'.after, Region.binds .any e = true → e.on ≠ j) → o.apart ops o' = true
  | 0, k, listed, hk, hs, hl, h, j, o, hj, ho => by
    have := (Array.getElem?_eq_some_iff.mp ho).1
    omega
  | f + 1, k, listed, hk, hs, hl, h, j, o, hj, ho => by
    simp only [Region.lexFrom, Bool.and_eq_true] at h
    obtain ⟨⟨h1, h2⟩, h3⟩ := h
    have hlt := (Array.getElem?_eq_some_iff.mp ho).1
    rcases Nat.lt_or_ge k j with hkj | hkj
    · refine lexFrom_spec f (k + 1) (listed.setIfInBounds k true) (by omega) (by simpa using hs) ?_ h3 j o (by omega) ho
      intro i hi
      by_cases e : i = k
      · subst e
        simp [Array.getD_eq_getD_getElem?, hs, hi]
      · rw [getD_set_ne true (Ne.symm e), hl i hi]
        simp; omega
    · obtain rfl : k = j := by omega
      have hr := mem_ready.mp (by simpa using h1)
      obtain ⟨_, o2, ho2, hr⟩ := hr
      rw [ho] at ho2
      simp only [Option.some.injEq] at ho2
      subst ho2
      have conv : ∀ i, listed.getD i false = true → i < k := by
        intro i hi
        have hin : i < listed.size := by
          rcases Nat.lt_or_ge i listed.size with h | h
          · exact h
          · rw [Array.getD_eq_getD_getElem?, Array.getElem?_eq_none h] at hi; simp at hi
        have h5 := hl i (by omega)
        rw [Array.getD_eq_getD_getElem?, Array.getElem?_eq_getElem hin] at hi h5
        simp only [Option.getD_some] at hi h5
        rw [hi] at h5
        simpa using h5.symm
      refine ⟨fun e he hb => conv _ (hr e he hb), fun i o' hi ho' hno => ?_⟩
      refine Region.free_spec ho h2 i o' ho' (by omega) ?_ hno
      have := (Array.getElem?_eq_some_iff.mp ho').1
      rw [hl i this]
      simp; omega

/-- What 'drawOk' tells. -/
structure DrawOk (P : Program) (md : FuncId → Md) (ops : Array Oper) : Prop where
  mixed : P.follows .mixedOrders = true
  edge : ∀ (j : Nat) (o : Oper), ops[j]? = some o → ∀ e ∈ o.after, Region.binds .any e = true → e.on < j
  apart : ∀ (j : Nat) (o : Oper), ops[j]? = some o → ∀ (i : Nat) (o' : Oper), j < i → ops[i]? = some o' → (∀ e ∈ o'.after, Region.binds .any e = true → e.on ≠ j) → o.apart ops o' = true
  kind : ∀ (j : Nat) (o : Oper), ops[j]? = some o → if hoist o.op then o.guard = none else mcl P md o.op ≠ 3
  w1 : ∀ (i j : Nat) (o o' : Oper), i < j → ops[i]? = some o → ops[j]? = some o' → mcl P md o'.op = 2 → (hoist o.op = true ∨ 1 ≤ mcl P md o.op) → (((Region.before ops).getD j 0).testBit i) = true ∨ (isSt md o'.op = true ∧ isLd md o.op = true) ∨ (isMk md o'.op = true ∧ hoist o.op = true)
  w2 : ∀ (i j : Nat) (o o' : Oper), i < j → ops[i]? = some o → ops[j]? = some o' → mcl P md o.op = 2 → 1 ≤ mcl P md o'.op → (((Region.before ops).getD j 0).testBit i) = true ∨ (isSt md o.op = true ∧ isLd md o'.op = true) ∨ (isMk md o.op = true ∧ hoist o'.op = true)
  w3 : ∀ (i j : Nat) (o o' : Oper), i < j → ops[i]? = some o → ops[j]? = some o' → mcl P md o.op = 2 → hoist o'.op = false ∨ isMk md o.op = true
  h1 : ∀ (i j : Nat) (o o' : Oper), i < j → ops[i]? = some o → ops[j]? = some o' → hoist o'.op = true → ∀ d, o'.dst = some d → touches ops o d = false
  h2 : ∀ (i j : Nat) (o o' : Oper), i < j → ops[i]? = some o → ops[j]? = some o' → hoist o.op = true → ∀ d, o.dst = some d → o'.dst ≠ some d

theorem drawOk_spec {P : Program} {md : FuncId → Md} {ops : Array Oper} (h : drawOk P md ops = true) : DrawOk P md ops := by
  simp only [drawOk, Bool.and_eq_true, List.all_eq_true, List.mem_range] at h
  obtain ⟨⟨hm, hl⟩, h⟩ := h
  simp only [Region.lexB, Bool.and_eq_true] at hl
  have hlex := lexFrom_spec ops.size 0 (Array.replicate ops.size false) (by omega) (by simp) (fun i hi => by simp [Array.getD_eq_getD_getElem?, hi]) hl.2
  have hD : ∀ (j : Nat) (o : Oper), ops[j]? = some o → ops.getD j default = o := fun j o ho => by simp [Array.getD_eq_getD_getElem?, ho]
  have hlt : ∀ (j : Nat) (o : Oper), ops[j]? = some o → j < ops.size := fun j o ho => (Array.getElem?_eq_some_iff.mp ho).1
  have hp : ∀ (i j : Nat) (o o' : Oper), i < j → ops[i]? = some o → ops[j]? = some o' → _ := fun i j o o' hij ho ho' => (h j (hlt _ _ ho')).2 i hij
  refine ⟨hm, fun j o ho => (hlex j o (Nat.zero_le _) ho).1, fun j o ho => (hlex j o (Nat.zero_le _) ho).2, ?_, ?_, ?_, ?_, ?_, ?_⟩
  · intro j o ho
    have := (h j (hlt _ _ ho)).1
    rw [hD _ _ ho] at this
    split at this
    · rename_i hh; rw [if_pos hh]; simpa using this
    · rename_i hh; rw [if_neg hh]; simpa using this
  · intro i j o o' hij ho ho' hc hk
    have := (hp i j o o' hij ho ho').1.1.1.1
    rw [hD _ _ ho, hD _ _ ho'] at this
    rw [Bool.or_eq_true, Bool.or_eq_true] at this
    rcases this with (this | this) | this
    · left
      simp only [hc, beq_self_eq_true, Bool.true_and, Bool.or_eq_true, Bool.not_eq_true', Bool.or_eq_false_iff] at this
      rcases this with this | this
      · rcases hk with hk | hk
        · rw [hk] at this; simp at this
        · have := this.2; simp at this; omega
      · exact this
    · right
      left
      simpa using this
    · right
      right
      simpa using this
  · intro i j o o' hij ho ho' hc hk
    have := (hp i j o o' hij ho ho').1.1.1.2
    rw [hD _ _ ho, hD _ _ ho'] at this
    rw [Bool.or_eq_true, Bool.or_eq_true] at this
    rcases this with (this | this) | this
    · left
      simp only [hc, beq_self_eq_true, Bool.true_and, Bool.or_eq_true, Bool.not_eq_true', decide_eq_false_iff_not] at this
      exact this.resolve_left (fun e => e hk)
    · right
      left
      simpa using this
    · right
      right
      simpa using this
  · intro i j o o' hij ho ho' hc
    have := (hp i j o o' hij ho ho').1.1.2
    rw [hD _ _ ho, hD _ _ ho'] at this
    simpa [hc] using this
  · intro i j o o' hij ho ho' hk d hd
    have := (hp i j o o' hij ho ho').1.2
    rw [hD _ _ ho, hD _ _ ho'] at this
    simpa [hk, hd] using this
  · intro i j o o' hij ho ho' hk d hd
    have := (hp i j o o' hij ho ho').2
    rw [hD _ _ ho, hD _ _ ho'] at this
    simpa [hk, hd] using this
end Go.Sy
