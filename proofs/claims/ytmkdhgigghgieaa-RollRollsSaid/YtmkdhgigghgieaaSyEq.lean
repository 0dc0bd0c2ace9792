/-
  '==' on values made of whole numbers, bools and strings: what the machine answers.
-/
import Derived.Test.YtmkdhgigghgieaaSyMem
import Derived.ChangeKeysEq
namespace Go.Sy

def eqV1 : Value → Value → Bool
  | .int _ a, .int _ b => a == b
  | .bool a, .bool b => a == b
  | .string a, .string b => a.toList == b.toList
  | _, _ => false

def eqVs : List Value → List Value → Bool
  | [], [] => true
  | x :: xs, y :: ys => eqV1 x y && eqVs xs ys
  | _, _ => false

theorem eqVs_append : ∀ (a a' b b' : List Value), a.length = a'.length → eqVs (a ++ b) (a' ++ b') = (eqVs a a' && eqVs b b')
  | [], [], b, b', _ => by simp [eqVs]
  | x :: a, y :: a', b, b', h => by
    simp only [List.length_cons, Nat.add_right_cancel_iff] at h
    simp [eqVs, eqVs_append a a' b b' h, Bool.and_assoc]
  | [], _ :: _, _, _, h => by simp at h
  | _ :: _, [], _, _, h => by simp at h

def CK.fitsV : CK → Value → Bool
  | .int k, .int k' _ => k == k'
  | .bool, .bool _ => true
  | .str, .string _ => true
  | _, _ => false

def Fits : List CK → List Value → Prop
  | [], [] => True
  | c :: cs, x :: xs => c.fitsV x = true ∧ Fits cs xs
  | _, _ => False

theorem Fits.length : ∀ {l : List CK} {xs : List Value}, Fits l xs → xs.length = l.length
  | [], [], _ => rfl
  | _ :: _, _ :: _, h => by simp [Fits.length h.2]
  | [], _ :: _, h => h.elim
  | _ :: _, [], h => h.elim

theorem Fits.split : ∀ {l m : List CK} {xs : List Value}, Fits (l ++ m) xs → Fits l (xs.take l.length) ∧ Fits m (xs.drop l.length)
  | [], m, xs, h => by simpa [Fits] using h
  | c :: l, m, [], h => h.elim
  | c :: l, m, x :: xs, h => by
    obtain ⟨h1, h2⟩ := h
    obtain ⟨h3, h4⟩ := Fits.split (l := l) h2
    exact ⟨⟨h1, by simpa using h3⟩, by simpa using h4⟩

/-- a value out of its cells -/
def mkV (P : Program) (t : TypeId) (xs : List Value) : Value :=
  if agA P t = some true then .agg xs.toArray else xs.headD undef

theorem ckA_agA {P : Program} {d : Nat} {t : TypeId} {l : List CK} (h : ckA P d t = some l) : agA P t = some true ∨ (agA P t = some false ∧ l.length = 1) := by
  cases d with
  | zero => simp [ckA] at h
  | succ d =>
    unfold ckA at h
    split at h
    all_goals first
      | (simp at h; done)
      | (rename_i hu; simp only [Option.some.injEq] at h; subst h; right; simp [agA, hu]; done)
      | (rename_i hu; left; simp [agA, hu]; done)

theorem run_part {P : Program} {w : World} {d : Nat} {e : TypeId} {l : List CK} (h : ckA P d e = some l) (hs : (P.info? e).map (·.size) = some l.length) (xs : List Value) (off : Nat) (hoff : off + l.length ≤ xs.length) :
    (part e xs.toArray off).run P w = .ok (mkV P e ((xs.drop off).take l.length)) w := by
  have hsz : szA P e = some l.length := hs
  rcases ckA_agA h with hg | ⟨hg, h1⟩
  · simp only [part, Sem.run_bind, run_agA hg, Result.andThen_ok, if_true, run_szA hsz, Sem.run_pure, mkV, hg]
    congr 2
    simp [List.extract_eq_take_drop]
  · simp only [part, Sem.run_bind, run_agA hg, Result.andThen_ok, Bool.false_eq_true, if_false, mkV, hg]
    have hlt : off < xs.length := by omega
    have : xs.toArray[off]? = some xs[off] := by simp [hlt]
    rw [this, h1]
    simp only [Sem.run_pure]
    rw [if_neg (by simp)]
    congr 1
    rw [List.drop_eq_getElem_cons hlt]
    rfl

theorem run_eqIn {P : Program} : ∀ (d : Nat) (t : TypeId) (l : List CK) (D : Nat), d ≤ D → ckA P d t = some l → ∀ (xs ys : List Value), Fits l xs → Fits l ys → ∀ w,
    (Op.equalIn D t (mkV P t xs) (mkV P t ys)).run P w = .ok (eqVs xs ys) w
  | 0, t, l, D, _, h, _, _, _, _, _ => by simp [ckA] at h
  | d + 1, t, l, D, hD, h, xs, ys, fx, fy, w => by
    obtain ⟨D, rfl⟩ : ∃ D', D = D' + 1 := ⟨D - 1, by omega⟩
    have hck := h
    unfold ckA at h
    split at h
    · rename_i k hu
      simp only [Option.some.injEq] at h
      subst h
      have hg : agA P t = some false := by simp [agA, hu]
      match xs, ys, fx, fy with
      | [.int k1 a], [.int k2 b], fx, fy => simp [mkV, hg, eqVs, eqV1, Op.equalIn, run_under hu]; simp [Fits, CK.fitsV] at fx fy; simp [← fx, ← fy]
    · rename_i hu
      simp only [Option.some.injEq] at h
      subst h
      have hg : agA P t = some false := by simp [agA, hu]
      match xs, ys, fx, fy with
      | [.bool a], [.bool b], fx, fy => simp [mkV, hg, run_equalIn_bool w D t a b hu, eqVs, eqV1]
    · rename_i hu
      simp only [Option.some.injEq] at h
      subst h
      have hg : agA P t = some false := by simp [agA, hu]
      match xs, ys, fx, fy with
      | [.string a], [.string b], fx, fy => simp [mkV, hg, run_equalIn_string w D t a b hu, eqVs, eqV1]
    · rename_i n e hu
      rw [Option.bind_eq_some_iff] at h
      obtain ⟨m, he, h⟩ := h
      split at h
      · rename_i hs
        obtain ⟨hs, hm0⟩ := hs
        simp only [Option.some.injEq] at h
        subst h
        have hg : agA P t = some true := by simp [agA, hu]
        obtain ⟨i, hi, hsi⟩ := Option.map_eq_some_iff.mp hs
        have hco : P.cellsOf e = m.length := by simp [Program.cellsOf, hi, hsi]
        simp only [mkV, hg, if_true]
        rw [run_equalIn_array w D xs.toArray ys.toArray hu hi, hco]
        have key : ∀ (c j : Nat), Fits (List.replicate c m).flatten (xs.drop (j * m.length)) → Fits (List.replicate c m).flatten (ys.drop (j * m.length)) →
            (Op.eqItems D e m.length xs.toArray ys.toArray (List.range' j c)).run P w = .ok (eqVs (xs.drop (j * m.length)) (ys.drop (j * m.length))) w := by
          intro c
          induction c with
          | zero =>
            intro j f1 f2
            have e1 : xs.drop (j * m.length) = [] := List.length_eq_zero_iff.mp (by simpa using f1.length)
            have e2 : ys.drop (j * m.length) = [] := List.length_eq_zero_iff.mp (by simpa using f2.length)
            rw [e1, e2]
            simp [Op.eqItems, eqVs]
          | succ c ih =>
            intro j f1 f2
            rw [List.replicate_succ, List.flatten_cons] at f1 f2
            have l1 := f1.length
            have l2 := f2.length
            rw [List.length_drop, List.length_append] at l1 l2
            obtain ⟨g1, g2⟩ := f1.split
            obtain ⟨g3, g4⟩ := f2.split
            rw [List.drop_drop] at g2 g4
            have hj : j * m.length + m.length = (j + 1) * m.length := by rw [Nat.succ_mul]
            rw [hj] at g2 g4
            rw [List.range'_succ]
            simp only [Op.eqItems, Sem.run_bind, run_part he hs xs (j * m.length) (by omega), run_part he hs ys (j * m.length) (by omega), Result.andThen_ok,
              run_eqIn d e m D (by omega) he _ _ g1 g3 w]
            have sx : xs.drop (j * m.length) = (xs.drop (j * m.length)).take m.length ++ xs.drop ((j + 1) * m.length) := by
              rw [← hj, ← List.drop_drop, List.take_append_drop]
            have sy : ys.drop (j * m.length) = (ys.drop (j * m.length)).take m.length ++ ys.drop ((j + 1) * m.length) := by
              rw [← hj, ← List.drop_drop, List.take_append_drop]
            have hq : eqVs (xs.drop (j * m.length)) (ys.drop (j * m.length)) = (eqVs ((xs.drop (j * m.length)).take m.length) ((ys.drop (j * m.length)).take m.length) && eqVs (xs.drop ((j + 1) * m.length)) (ys.drop ((j + 1) * m.length))) := by
              conv => lhs; rw [sx, sy]
              exact eqVs_append _ _ _ _ (by rw [g1.length, g3.length])
            rw [hq]
            cases hb : eqVs ((xs.drop (j * m.length)).take m.length) ((ys.drop (j * m.length)).take m.length)
            · simp
            · simp only [Bool.not_true, Bool.false_eq_true, if_false, Bool.true_and]
              exact ih (j + 1) g2 g4
        have f1 : Fits (List.replicate n m).flatten (xs.drop (0 * m.length)) := by simpa using fx
        have f2 : Fits (List.replicate n m).flatten (ys.drop (0 * m.length)) := by simpa using fy
        have := key n 0 f1 f2
        simpa [List.range_eq_range'] using this
      · simp at h
    · rename_i fs hu
      split at h
      · simp at h
      · rename_i hst
        have hg : agA P t = some true := by simp [agA, hu]
        have hfo : P.fieldsOf t = fs := by simp [Program.fieldsOf, hu]
        simp only [mkV, hg, if_true]
        rw [run_equalIn_struct w D t xs.toArray ys.toArray (by rw [hfo]; exact hu) (by simpa using hst), hfo]
        have key : ∀ (fl : List Field) (off : Nat) (m : List CK), ckF P (ckA P d) fl off = some m → Fits m (xs.drop off) → Fits m (ys.drop off) →
            (Op.eqFields D xs.toArray ys.toArray fl).run P w = .ok (eqVs (xs.drop off) (ys.drop off)) w := by
          intro fl
          induction fl with
          | nil =>
            intro off m hm f1 f2
            simp only [ckF, Option.some.injEq] at hm
            subst hm
            have e1 : xs.drop off = [] := List.length_eq_zero_iff.mp (by simpa using f1.length)
            have e2 : ys.drop off = [] := List.length_eq_zero_iff.mp (by simpa using f2.length)
            rw [e1, e2]
            simp [Op.eqFields, eqVs]
          | cons f fl ih =>
            intro off m hm f1 f2
            simp only [ckF] at hm
            split at hm
            · simp at hm
            · rename_i hno
              rw [Option.bind_eq_some_iff] at hm
              obtain ⟨l1, hl1, hm⟩ := hm
              split at hm
              · rename_i hs
                obtain ⟨hs, hpos⟩ := hs
                rw [Option.map_eq_some_iff] at hm
                obtain ⟨l2, hl2, rfl⟩ := hm
                obtain ⟨hn, ho⟩ : f.name ≠ "_" ∧ f.offset = off := ⟨fun e => hno (.inl e), Classical.byContradiction fun e => hno (.inr e)⟩
                have t1 := f1.length
                have t2 := f2.length
                rw [List.length_drop, List.length_append] at t1 t2
                obtain ⟨g1, g2⟩ := f1.split
                obtain ⟨g3, g4⟩ := f2.split
                rw [List.drop_drop] at g2 g4
                simp only [Op.eqFields, hn, ne_eq, not_false_eq_true, if_true, Sem.run_bind, ho, run_part hl1 hs xs off (by omega), run_part hl1 hs ys off (by omega), Result.andThen_ok,
                  run_eqIn d f.type l1 D (by omega) hl1 _ _ g1 g3 w]
                have hq : eqVs (xs.drop off) (ys.drop off) = (eqVs ((xs.drop off).take l1.length) ((ys.drop off).take l1.length) && eqVs (xs.drop (off + l1.length)) (ys.drop (off + l1.length))) := by
                  have sx : xs.drop off = (xs.drop off).take l1.length ++ xs.drop (off + l1.length) := by rw [← List.drop_drop, List.take_append_drop]
                  have sy : ys.drop off = (ys.drop off).take l1.length ++ ys.drop (off + l1.length) := by rw [← List.drop_drop, List.take_append_drop]
                  conv => lhs; rw [sx, sy]
                  exact eqVs_append _ _ _ _ (by rw [g1.length, g3.length])
                rw [hq]
                cases hb : eqVs ((xs.drop off).take l1.length) ((ys.drop off).take l1.length)
                · simp
                · simp only [Bool.not_true, Bool.false_eq_true, if_false, Bool.true_and]
                  exact ih (off + l1.length) l2 hl2 g2 g4
              · simp at hm
        have := key fs.toList 0 l h (by simpa using fx) (by simpa using fy)
        simpa using this
    · simp at h
end Go.Sy
