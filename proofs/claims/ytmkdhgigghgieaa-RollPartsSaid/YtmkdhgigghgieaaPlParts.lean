/-
  Rolls of some patches, and then of the others: bytes over bytes.
-/
import Derived.Test.YtmkdhgigghgieaaLwRollOn
import Derived.Test.YtmkdhgigghgieaaPfRollD
namespace Go.Sy
open Go.Proofs Num Crc Seal

theorem lq_get (o : Nat) (q d : List UInt8) (h : o + d.length ≤ q.length) (i : Nat) : (lq o q d)[i]? = if o ≤ i ∧ i < o + d.length then d[i - o]? else q[i]? := by
  unfold lq
  have h1 : (q.take o).length = o := by rw [List.length_take]; omega
  by_cases hi : i < o
  · rw [if_neg (by omega), List.append_assoc, List.getElem?_append_left (by omega), List.getElem?_take_of_lt hi]
  · by_cases hj : i < o + d.length
    · rw [if_pos ⟨by omega, hj⟩, List.append_assoc, List.getElem?_append_right (by omega), h1, List.getElem?_append_left (by omega)]
    · rw [if_neg (by omega), List.getElem?_append_right (by rw [List.length_append]; omega), List.length_append, h1, List.getElem?_drop]
      congr 1
      omega
theorem lq_comm (o1 o2 : Nat) (q d1 d2 : List UInt8) (h1 : o1 + d1.length ≤ q.length) (h2 : o2 + d2.length ≤ q.length) (h : o1 + d1.length ≤ o2 ∨ o2 + d2.length ≤ o1) : lq o1 (lq o2 q d2) d1 = lq o2 (lq o1 q d1) d2 := by
  have l1 : (lq o1 q d1).length = q.length := by
    have := lq_lenj o1 q d1 h1 d1.length (Nat.le_refl _)
    rwa [List.take_length] at this
  have l2 : (lq o2 q d2).length = q.length := by
    have := lq_lenj o2 q d2 h2 d2.length (Nat.le_refl _)
    rwa [List.take_length] at this
  apply List.ext_getElem?
  intro i
  rw [lq_get o1 (lq o2 q d2) d1 (by rw [l2]; exact h1), lq_get o2 q d2 h2, lq_get o2 (lq o1 q d1) d2 (by rw [l1]; exact h2), lq_get o1 q d1 h1]
  by_cases a : o1 ≤ i ∧ i < o1 + d1.length
  · rw [if_pos a, if_pos a, if_neg (by omega)]
  · rw [if_neg a, if_neg a]
/-- a patch's bytes over a load -/
def ov1 (q : List UInt8) (p : Pt) : List UInt8 := lq p.off.toNat q p.data
def ovl (l : List Pt) (q : List UInt8) : List UInt8 := l.foldl ov1 q
/-- a patch of a sealed kind that lies in a load -/
structure Fine (k : Int) (p : Pt) : Prop where
  kind : p.kind = k
  off : 0 ≤ p.off ∧ p.off < 40
  data : p.data.length ≤ 8
theorem ov1_len (k : Int) (p : Pt) (h : Fine k p) (q : List UInt8) (hq : q.length = 54) : (ov1 q p).length = 54 := by
  have := h.off
  have := h.data
  exact lq_len _ _ _ hq (by omega)
theorem ovl_len (k : Int) (l : List Pt) (h : ∀ p ∈ l, Fine k p) (q : List UInt8) (hq : q.length = 54) : (ovl l q).length = 54 := by
  induction l generalizing q with
  | nil => exact hq
  | cons p l ih => exact ih (fun p hp => h p (by simp [hp])) _ (ov1_len k p (h p (by simp)) q hq)
/-- they do not meet -/
def apart2 (p r : Pt) : Prop := p.off + p.data.length ≤ r.off ∨ r.off + r.data.length ≤ p.off
theorem ov1_comm (k : Int) (p r : Pt) (hp : Fine k p) (hr : Fine k r) (h : apart2 p r) (q : List UInt8) (hq : q.length = 54) : ov1 (ov1 q r) p = ov1 (ov1 q p) r := by
  have := hp.off
  have := hp.data
  have := hr.off
  have := hr.data
  unfold apart2 at h
  exact lq_comm _ _ _ _ _ (by omega) (by omega) (by omega)
theorem ovl_comm (k : Int) (p : Pt) (hp : Fine k p) (l : List Pt) (hl : ∀ r ∈ l, Fine k r) (h : ∀ r ∈ l, apart2 p r) (q : List UInt8) (hq : q.length = 54) : ov1 (ovl l q) p = ovl l (ov1 q p) := by
  induction l generalizing q with
  | nil => rfl
  | cons r l ih =>
    show ov1 (ovl l (ov1 q r)) p = ovl l (ov1 (ov1 q p) r)
    rw [ih (fun x hx => hl x (by simp [hx])) (fun x hx => h x (by simp [hx])) _ (ov1_len k r (hl r (by simp)) q hq), ov1_comm k p r hp (hl r (by simp)) (h r (by simp)) q hq]
theorem ovl_snoc (l : List Pt) (p : Pt) (q : List UInt8) : ovl (l ++ [p]) q = ov1 (ovl l q) p := by
  unfold ovl
  rw [List.foldl_append]
  rfl
/-- patches, each taken or left: none that is taken meets one that is left and stands ahead of it -/
def chosen (D : List (Pt × Bool)) : List Pt := (D.filter (·.2)).map (·.1)
def left (D : List (Pt × Bool)) : List Pt := (D.filter (!·.2)).map (·.1)
inductive Order (k : Int) : List (Pt × Bool) → Prop
  | nil : Order k []
  | take (D : List (Pt × Bool)) (p : Pt) (h : Order k D) (hp : Fine k p) (ha : ∀ r ∈ left D, apart2 p r) : Order k (D ++ [(p, true)])
  | leave (D : List (Pt × Bool)) (p : Pt) (h : Order k D) (hp : Fine k p) : Order k (D ++ [(p, false)])
theorem chosen_t (D : List (Pt × Bool)) (p : Pt) : chosen (D ++ [(p, true)]) = chosen D ++ [p] := by simp [chosen]
theorem chosen_f (D : List (Pt × Bool)) (p : Pt) : chosen (D ++ [(p, false)]) = chosen D := by simp [chosen]
theorem left_t (D : List (Pt × Bool)) (p : Pt) : left (D ++ [(p, true)]) = left D := by simp [left]
theorem left_f (D : List (Pt × Bool)) (p : Pt) : left (D ++ [(p, false)]) = left D ++ [p] := by simp [left]
theorem Order.fine {k : Int} {D : List (Pt × Bool)} (h : Order k D) : ∀ e ∈ D, Fine k e.1 := by
  induction h with
  | nil => intro e he; cases he
  | take D p h hp ha ih =>
    intro e he
    rcases List.mem_append.1 he with he | he
    · exact ih e he
    · rw [List.mem_singleton.1 he]; exact hp
  | leave D p h hp ih =>
    intro e he
    rcases List.mem_append.1 he with he | he
    · exact ih e he
    · rw [List.mem_singleton.1 he]; exact hp
theorem Order.chosen {k : Int} {D : List (Pt × Bool)} (h : Order k D) : ∀ p ∈ chosen D, Fine k p := by
  intro p hp
  obtain ⟨e, he, rfl⟩ := List.mem_map.1 hp
  exact h.fine e (List.mem_filter.1 he).1
theorem Order.left {k : Int} {D : List (Pt × Bool)} (h : Order k D) : ∀ p ∈ left D, Fine k p := by
  intro p hp
  obtain ⟨e, he, rfl⟩ := List.mem_map.1 hp
  exact h.fine e (List.mem_filter.1 he).1
theorem Order.all {k : Int} {D : List (Pt × Bool)} (h : Order k D) : ∀ p ∈ D.map (·.1), Fine k p := by
  intro p hp
  obtain ⟨e, he, rfl⟩ := List.mem_map.1 hp
  exact h.fine e he
theorem Order.ovl {k : Int} {D : List (Pt × Bool)} (h : Order k D) (q : List UInt8) (hq : q.length = 54) : ovl (D.map (·.1)) q = ovl (Sy.left D) (ovl (Sy.chosen D) q) := by
  induction h with
  | nil => rfl
  | take D p h hp ha ih =>
    rw [List.map_append, List.map_singleton, ovl_snoc, ih, chosen_t, left_t, ovl_snoc]
    exact ovl_comm k p hp _ h.left ha _ (ovl_len k _ h.chosen q hq)
  | leave D p h hp ih =>
    rw [List.map_append, List.map_singleton, ovl_snoc, ih, chosen_f, left_f, ovl_snoc]
/-- a roll of fine patches -/
theorem fine_good (k : Int) (hk : mayK k) (p : Pt) (h : Fine k p) : ¬ badP p := by
  have h1 := h.kind
  have h2 := h.off
  have h3 := h.data
  unfold mayK at hk
  have hr : rm p.kind = 54 := by unfold rm; rw [if_neg (by omega)]
  unfold badP
  rw [hr]
  omega
theorem ldV_blk (k : Int) (hk : mayK k) (t : Nat) (ht : t < 4294967296) (q : List UInt8) (hq : q.length = 54) : ldV k (blk k.toNat t q) = q := by
  have hk' : mayK ((k.toNat : Nat) : Int) := by unfold mayK at *; omega
  obtain ⟨a1, a2, a3, a4⟩ := blk_parts k.toNat t q hq hk' ht
  unfold ldV
  rw [if_pos ⟨hk, by rw [a2]; unfold mayK at hk; omega, a4⟩, a1]
theorem fold_fine (k : Int) (hk : mayK k) (t : Nat) (ht : t < 4294967296) (l : List Pt) (hl : ∀ p ∈ l, Fine k p) (c : List UInt8) (hc : c.length = 64) :
    foldP yes t l c = some (if l = [] then c else blk k.toNat t (ovl l (ldV k c))) := by
  induction l generalizing c with
  | nil => rfl
  | cons p l ih =>
    have hp := hl p (by simp)
    have hb := fine_good k hk p hp
    rw [foldP_yes, if_neg hb, if_neg (by simp), ih (fun x hx => hl x (by simp [hx])) _ (layB_len c t p hc hb)]
    have hq := ldV_len k c hc
    have e : layB c t p = blk k.toNat t (ov1 (ldV k c) p) := by
      unfold layB ov1
      rw [hp.kind, if_neg (by unfold mayK at hk; omega)]
    rw [e, ldV_blk k hk t ht _ (ov1_len k p hp _ hq)]
    show _ = some (blk k.toNat t (ovl l (ov1 (ldV k c) p)))
    split
    · subst_vars; rfl
    · rfl
theorem parts_law (k : Int) (hk : mayK k) (D : List (Pt × Bool)) (h : Order k D) (b : List UInt8) (hb : b.length = 64) :
    ∃ all one two : List UInt8, foldP yes (nxtT b) (D.map (·.1)) b = some all ∧ foldP yes (nxtT b) (chosen D) b = some one ∧ foldP yes (nxtT one) (left D) one = some two ∧ sameV all two = true := by
  have h1 := fold_fine k hk _ (nxtT_lt b) (D.map (·.1)) h.all b hb
  have h2 := fold_fine k hk _ (nxtT_lt b) (chosen D) h.chosen b hb
  have hq := ldV_len k b hb
  refine ⟨_, _, _, h1, h2, fold_fine k hk _ (nxtT_lt _) (left D) h.left _ ?_, alike_same _ _ ?_⟩
  · split
    · exact hb
    · exact blk_len _ _ _ (ovl_len k _ h.chosen _ hq)
  · have ho := h.ovl (ldV k b) hq
    have hk' : mayK ((k.toNat : Nat) : Int) := by unfold mayK at *; omega
    have hlen := ovl_len k _ h.chosen _ hq
    have hlen2 := ovl_len k _ h.left _ hlen
    by_cases e1 : chosen D = []
    · rw [if_pos e1]
      rw [e1] at ho hlen2
      by_cases e2 : left D = []
      · have e3 : D.map (·.1) = [] := by
          rcases D with _ | ⟨⟨p, c⟩, D⟩
          · rfl
          · cases c <;> simp [chosen, left] at e1 e2
        rw [if_pos e2, if_pos e3]
        exact .inl rfl
      · have e3 : D.map (·.1) ≠ [] := fun e => e2 (by rcases D with _ | ⟨x, D⟩; rfl; simp at e)
        rw [if_neg e2, if_neg e3, ho]
        exact .inr ⟨_, _, _, _, hk', nxtT_lt _, nxtT_lt _, hlen2, rfl, rfl⟩
    · have e3 : D.map (·.1) ≠ [] := fun e => e1 (by rcases D with _ | ⟨x, D⟩; rfl; simp at e)
      rw [if_neg e1, if_neg e3, ho]
      by_cases e2 : left D = []
      · rw [if_pos e2, e2]
        exact .inl rfl
      · rw [if_neg e2, ldV_blk k hk _ (nxtT_lt b) _ hlen]
        exact .inr ⟨_, _, _, _, hk', nxtT_lt _, nxtT_lt _, hlen2, rfl, rfl⟩
end Go.Sy
