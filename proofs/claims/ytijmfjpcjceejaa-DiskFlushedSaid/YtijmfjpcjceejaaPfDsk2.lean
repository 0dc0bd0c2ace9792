/-
  Layer 04: what disk.Crash does to a disk's boxes: sector by sector, whatever the order.
-/
import Derived.Test.YtijmfjpcjceejaaPfDsk
namespace Go.Sy.Pre
open Go.Proofs
open Go.Sy.Pr0 (Wt Ws wEs)

theorem nd_idx : ∀ {l : List Nat}, l.Nodup → ∀ {i j x : Nat}, l[i]? = some x → l[j]? = some x → i = j
  | [], _, i, j, x, h, _ => by simp at h
  | a :: l, hn, 0, 0, x, _, _ => rfl
  | a :: l, hn, 0, j + 1, x, hi, hj => by
    rw [List.nodup_cons] at hn
    simp at hi
    subst hi
    exact (hn.1 (List.mem_of_getElem? (i := j) (by simpa using hj))).elim
  | a :: l, hn, i + 1, 0, x, hi, hj => by
    rw [List.nodup_cons] at hn
    simp at hj
    subst hj
    exact (hn.1 (List.mem_of_getElem? (i := i) (by simpa using hi))).elim
  | a :: l, hn, i + 1, j + 1, x, hi, hj => by
    rw [List.nodup_cons] at hn
    exact congrArg (· + 1) (nd_idx hn.2 (i := i) (j := j) (x := x) (by simpa using hi) (by simpa using hj))
theorem find_congr {α : Type} {p q : α → Bool} : ∀ {l : List α}, (∀ x ∈ l, p x = q x) → l.find? p = l.find? q
  | [], _ => rfl
  | x :: l, h => by
    rw [List.find?_cons, List.find?_cons, h x (by simp), find_congr fun y hy => h y (by simp [hy])]
theorem find_uniq {α : Type} {p : α → Bool} {x : α} : ∀ {l : List α}, x ∈ l → p x = true → (∀ y ∈ l, p y = true → y = x) → l.find? p = some x
  | [], h, _, _ => by cases h
  | a :: l, h, hp, hu => by
    rw [List.find?_cons]
    cases ha : p a
    · rcases List.mem_cons.1 h with rfl | h
      · rw [hp] at ha; cases ha
      · exact find_uniq h hp fun y hy hpy => hu y (by simp [hy]) hpy
    · rw [hu a (by simp) ha]
def sel (bs : List Nat) (ws : Ws) (seen : List Nat) (k : Nat) : Option (Nat × Wt) := (bs.zip ws).find? fun q => q.2.1 == k && seen.contains q.1
/-- the stable bytes when these sectors have been looked at; 'f': what a sector has then -/
def layS (f : Nat → List UInt8 → List UInt8) (n : Nat) (c : List UInt8) (bs : List Nat) (ws : Ws) (seen : List Nat) : List UInt8 := lay n fun k => match sel bs ws seen k with
  | some q => f k q.2.2.2
  | none => bk c k
structure WOk (n s : Nat) (bx : Bx) (bs : List Nat) (ws : Ws) : Prop where
  nd : bs.Nodup
  ln : bs.length = ws.length
  hw : ∀ q ∈ ws, q.1 < n ∧ q.2.1 ≠ s ∧ bx[q.2.1]? = some (u8l q.2.2) ∧ q.2.2.length % 64 = 0 ∧ q.2.2.length < 2 ^ 60
  hk : (ws.map (·.1)).Nodup
theorem zip_at {bs : List Nat} {ws : Ws} {x : Nat × Wt} (h : x ∈ bs.zip ws) : ∃ j : Nat, bs[j]? = some x.1 ∧ ws[j]? = some x.2 := by
  obtain ⟨j, hj⟩ := List.getElem?_of_mem h
  rw [List.getElem?_zip_eq_some] at hj
  exact ⟨j, hj⟩
theorem at_zip {bs : List Nat} {ws : Ws} {j b : Nat} {q : Wt} (h1 : bs[j]? = some b) (h2 : ws[j]? = some q) : (b, q) ∈ bs.zip ws :=
  List.mem_of_getElem? (i := j) (by rw [List.getElem?_zip_eq_some]; exact ⟨h1, h2⟩)
theorem zip_key {n s : Nat} {bx : Bx} {bs : List Nat} {ws : Ws} (H : WOk n s bx bs ws) {x y : Nat × Wt} (hx : x ∈ bs.zip ws) (hy : y ∈ bs.zip ws) (h : x.2.1 = y.2.1) : x = y := by
  obtain ⟨i, h1, h2⟩ := zip_at hx
  obtain ⟨j, h3, h4⟩ := zip_at hy
  have : i = j := nd_idx (x := x.2.1) H.hk (by rw [List.getElem?_map, h2]; rfl) (by rw [List.getElem?_map, h4, h]; rfl)
  subst this
  rw [h1] at h3
  rw [h2] at h4
  exact Prod.ext (Option.some.inj h3) (Option.some.inj h4)
theorem layS_len {f : Nat → List UInt8 → List UInt8} {n s : Nat} {bx : Bx} {c : List UInt8} {bs : List Nat} {ws : Ws} (H : WOk n s bx bs ws) (hc : c.length = n * 64) (hf : ∀ q ∈ ws, (f q.1 q.2.2).length = 64) (seen : List Nat) :
    (∀ k, k < n → (match sel bs ws seen k with | some q => f k q.2.2.2 | none => bk c k).length = 64) ∧ (layS f n c bs ws seen).length = n * 64 := by
  have h : ∀ k, k < n → (match sel bs ws seen k with | some q => f k q.2.2.2 | none => bk c k).length = 64 := by
    intro k hk
    cases hs : sel bs ws seen k with
    | none => exact bk_len hk hc
    | some q =>
      have hp := List.find?_some hs
      have hm := List.mem_of_find?_eq_some hs
      simp only [Bool.and_eq_true, beq_iff_eq] at hp
      obtain ⟨j, _, h2⟩ := zip_at hm
      show (f k q.2.2.2).length = 64
      rw [← hp.1]
      exact hf q.2 (List.mem_of_getElem? h2)
  exact ⟨h, lay_len n _ h⟩
theorem layS_step {f : Nat → List UInt8 → List UInt8} {n s : Nat} {bx : Bx} {c : List UInt8} {bs : List Nat} {ws : Ws} (H : WOk n s bx bs ws) (hc : c.length = n * 64) (hf : ∀ q ∈ ws, (f q.1 q.2.2).length = 64) (seen : List Nat) {i b : Nat} {q : Wt}
    (h1 : bs[i]? = some b) (h2 : ws[i]? = some q) (hb : b ∉ seen) :
    spl (layS f n c bs ws seen) q.1 (f q.1 q.2.2) = layS f n c bs ws (seen ++ [b]) ∧ bk (layS f n c bs ws seen) q.1 = bk c q.1 := by
  have hz := at_zip h1 h2
  have hq := List.mem_of_getElem? h2
  obtain ⟨l1, l2⟩ := layS_len H hc hf seen
  obtain ⟨l3, l4⟩ := layS_len H hc hf (seen ++ [b])
  have hqn := (H.hw q hq).1
  have s0 : sel bs ws seen q.1 = none := by
    unfold sel
    rw [List.find?_eq_none]
    intro x hx hp
    simp only [Bool.and_eq_true, beq_iff_eq] at hp
    have := zip_key H hx hz hp.1
    subst this
    exact hb (by simpa using hp.2)
  have s1 : sel bs ws (seen ++ [b]) q.1 = some (b, q) := by
    unfold sel
    refine find_uniq hz (by simp) fun y hy hp => ?_
    simp only [Bool.and_eq_true, beq_iff_eq] at hp
    exact zip_key H hy hz hp.1
  have s2 : ∀ k, k ≠ q.1 → sel bs ws (seen ++ [b]) k = sel bs ws seen k := by
    intro k hk
    unfold sel
    refine find_congr fun x hx => ?_
    by_cases e : x.2.1 = k
    · have hxb : x.1 ≠ b := by
        intro hc
        obtain ⟨j, g1, g2⟩ := zip_at hx
        have : j = i := nd_idx H.nd g1 (hc ▸ h1)
        subst this
        rw [h2] at g2
        exact hk (by rw [← e, ← Option.some.inj g2])
      simp [hxb]
    · have : (x.2.1 == k) = false := by simpa using e
      rw [this]
      rfl
  refine ⟨bk_ext n (spl_len l2 hqn (hf q hq)) l4 fun k hk => ?_, ?_⟩
  · rw [show bk (layS f n c bs ws (seen ++ [b])) k = _ from lay_bk n _ l3 k hk]
    by_cases e : k = q.1
    · subst e
      rw [spl_at l2 hqn (hf q hq), s1]
    · rw [spl_ne l2 hqn hk e (hf q hq), show bk (layS f n c bs ws seen) k = _ from lay_bk n _ l1 k hk, s2 k e]
  · rw [show bk (layS f n c bs ws seen) q.1 = _ from lay_bk n _ l1 q.1 hqn, s0]
theorem layS_none {f : Nat → List UInt8 → List UInt8} {n : Nat} {c : List UInt8} {bs : List Nat} {ws : Ws} (hc : c.length = n * 64) : layS f n c bs ws [] = c := by
  have hs : ∀ k, sel bs ws [] k = none := by
    intro k
    unfold sel
    rw [List.find?_eq_none]
    intro x _ hp
    simp at hp
  have h : ∀ k, k < n → (match sel bs ws [] k with | some q => f k q.2.2.2 | none => bk c k).length = 64 := fun k hk => by rw [hs k]; exact bk_len hk hc
  refine bk_ext n (lay_len n _ h) hc fun k hk => ?_
  rw [show bk (layS f n c bs ws []) k = _ from lay_bk n _ h k hk, hs k]
theorem layS_all {f : Nat → List UInt8 → List UInt8} {n : Nat} {c : List UInt8} {bs : List Nat} {ws : Ws} {seen : List Nat} (h : ∀ b ∈ bs, b ∈ seen) : layS f n c bs ws seen = layS f n c bs ws bs := by
  unfold layS
  congr 1
  funext k
  have : sel bs ws seen k = sel bs ws bs k := by
    unfold sel
    refine find_congr fun x hx => ?_
    obtain ⟨j, g1, _⟩ := zip_at hx
    have hb := List.mem_of_getElem? g1
    simp [hb, h x.1 hb]
  rw [this]
end Go.Sy.Pre
