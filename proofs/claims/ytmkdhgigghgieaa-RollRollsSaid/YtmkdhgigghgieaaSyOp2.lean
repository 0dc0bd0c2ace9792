/-
  The reader's indices, fields, slices, conversions and builds, against the machine's.
-/
import Derived.Test.YtmkdhgigghgieaaSyOp1
namespace Go.Sy

theorem idxI_spec {len off sz o : Nat} {x : AV} (h : idxI len off sz x = some o) : ∃ (k : IntKind) (i : Int), x = .v (.int k i) ∧ 0 ≤ i ∧ i < len ∧ o = off + i.toNat * sz := by
  unfold idxI at h
  split at h
  · rename_i k i
    split at h
    · rename_i hc
      simp only [Option.some.injEq] at h
      exact ⟨k, i, rfl, hc.1, hc.2, h.symm⟩
    · simp at h
  · simp at h

section
variable {P : Program} {G : Gh} {w : World} {β : Beta}

theorem indexAddrA_ok {t : TypeId} {x i r : AV} {vx vi : Value} (h : indexAddrA P t x i = some r) (hx : VR w (im G w β) β x vx) (hi : VR w (im G w β) β i vi) :
    ∃ v, (Instr.indexAt t vx vi).run P w = .ok v w ∧ VR w (im G w β) β r v := by
  unfold indexAddrA at h
  split at h
  · rename_i b off
    simp only [Option.bind_eq_some_iff, Option.map_eq_some_iff] at h
    obtain ⟨⟨n, e⟩, hn, sz, hs, o, ho, rfl⟩ := h
    obtain ⟨k, j, rfl, h0, h1, rfl⟩ := idxI_spec ho
    cases hi
    cases hx with
    | bp _ _ blk ob hb =>
    refine ⟨.pointer (some ⟨blk, ob + off + j.toNat * sz, none⟩), ?_, by rw [Nat.add_assoc]; exact .bp b _ blk ob hb⟩
    have hu := arA_spec hn
    simp only [Instr.indexAt, asIntOf, Sem.run_bind, Sem.run_pure, Result.andThen_ok, run_under hu, Instr.sureAddr]
    simp [h0, h1, run_szA hs, addr_add]
  · rename_i l f
    simp only [Option.bind_eq_some_iff, Option.map_eq_some_iff] at h
    obtain ⟨⟨n, e⟩, hn, sz, hs, o, ho, rfl⟩ := h
    obtain ⟨k, j, rfl, h0, h1, rfl⟩ := idxI_spec ho
    cases hi
    cases hx with
    | ip _ _ blk ob cv ha hc hr =>
    have hu := arA_spec hn
    refine ⟨.pointer (some ⟨blk, ob + j.toNat * sz, none⟩), ?_, .ip _ _ blk _ (fun q => cv (j.toNat * sz + q)) ?_ ?_ ?_⟩
    · simp only [Instr.indexAt, asIntOf, Sem.run_bind, Sem.run_pure, Result.andThen_ok, run_under hu, Instr.sureAddr]
      simp [h0, h1, run_szA hs, addr_add]
    · exact ha.imp (fun h => by simp [h]) id
    · intro q hq
      have := hc (j.toNat * sz + q) (by simp at hq; omega)
      rw [Nat.add_assoc]; exact this
    · intro q y hy
      rw [List.getElem?_drop] at hy
      have : 0 + j.toNat * sz + q = j.toNat * sz + q := by omega
      rw [this] at hy
      exact hr _ _ hy
  · rename_i b off n e
    split at h
    · rename_i hsl
      obtain ⟨et, hu, hel⟩ := isSl_spec hsl
      simp only [hel, Option.bind_some] at h
      split at h
      · rename_i hs
        rw [Option.map_eq_some_iff] at h
        obtain ⟨o, ho, rfl⟩ := h
        obtain ⟨k, j, rfl, h0, h1, rfl⟩ := idxI_spec ho
        cases hi
        cases hx with
        | bsl _ _ _ _ blk ob a cap hb hn he ha hc =>
          have ha' : a = ⟨blk, ob + off, none⟩ := ha.resolve_right (fun h => by omega)
          subst ha'
          refine ⟨.pointer (some ⟨blk, ob + off + j.toNat * e, none⟩), ?_, by rw [Nat.add_assoc]; exact .bp b _ blk ob hb⟩
          simp only [Instr.indexAt, asIntOf, Sem.run_bind, Sem.run_pure, Result.andThen_ok, run_under hu]
          simp [h0, h1, run_szA hs, addr_add]
        | bslU _ _ a hb => simp at h1; omega
      · simp at h
    · simp at h
  · rename_i n l f
    split at h
    · rename_i hsl
      obtain ⟨et, hu, hel⟩ := isSl_spec hsl
      simp only [hel, Option.bind_some, Option.bind_eq_some_iff] at h
      obtain ⟨sz, hs, o, ho, h⟩ := h
      obtain ⟨k, j, rfl, h0, h1, rfl⟩ := idxI_spec ho
      split at h
      · rename_i hle
        simp only [Option.some.injEq] at h
        subst h
        cases hi
        cases hx with
        | sl _ _ _ a cap blk off cv hn ha hc hr =>
        rcases ha with ⟨rfl, rfl⟩ | ⟨rfl, hm⟩
        · simp at h1; omega
        · refine ⟨.pointer (some ⟨blk, off + j.toNat * sz, none⟩), ?_, .ip _ _ blk _ (fun q => cv (j.toNat * sz + q)) (.inr hm) ?_ ?_⟩
          · simp only [Instr.indexAt, asIntOf, Sem.run_bind, Sem.run_pure, Result.andThen_ok, run_under hu]
            simp [h0, h1, run_szA hs, addr_add]
          · intro q hq
            have := hc (j.toNat * sz + q) (by simp at hq; omega)
            rw [Nat.add_assoc]; exact this
          · intro q y hy
            rw [List.getElem?_drop] at hy
            have : 0 + j.toNat * sz + q = j.toNat * sz + q := by omega
            rw [this] at hy
            exact hr _ _ hy
      · simp at h
    · simp at h
  · rename_i b n e
    split at h
    · rename_i hsl
      obtain ⟨et, hu, hel⟩ := isSl_spec hsl
      simp only [hel, Option.bind_some] at h
      split at h
      · rename_i hs
        rw [Option.map_eq_some_iff] at h
        obtain ⟨o, ho, rfl⟩ := h
        obtain ⟨k, j, rfl, h0, h1, rfl⟩ := idxI_spec ho
        cases hi
        cases hx with
        | gs _ _ g x hb hx =>
          have hj : j.toNat * e + e ≤ x.n * e := by
            have : j.toNat + 1 ≤ x.n := by omega
            have := Nat.mul_le_mul_right e this
            rw [Nat.succ_mul] at this
            exact this
          refine ⟨.pointer (some ⟨x.blk, x.off + (0 + j.toNat * e), none⟩), ?_, .gp b _ e e g x hb hx (by omega)⟩
          simp only [Instr.indexAt, asIntOf, Sem.run_bind, Sem.run_pure, Result.andThen_ok, run_under hu]
          simp [h0, h1, run_szA hs, addr_add]
      · simp at h
    · simp at h
  · simp at h

theorem fieldAddrA_ok {t : TypeId} {x r : AV} {i : Nat} {vx : Value} (h : fieldAddrA P t x i = some r) (hx : VR w (im G w β) β x vx) :
    ∃ v, (Instr.fieldAt t vx i).run P w = .ok v w ∧ VR w (im G w β) β r v := by
  unfold fieldAddrA at h
  rw [Option.bind_eq_some_iff] at h
  obtain ⟨⟨off, ft⟩, hf, h⟩ := h
  obtain ⟨fs, f, hu, hfi, rfl, rfl⟩ := fiA_spec hf
  simp only at h
  split at h
  · simp at h
  · rename_i hz
    have hplace : ∀ a : Addr, (szA P f.type).isSome → (fieldPlace a f).run P w = .ok (a.add f.offset) w := by
      intro a hs
      obtain ⟨n, hn⟩ := Option.isSome_iff_exists.mp hs
      simp only [fieldPlace, Sem.run_bind, run_szA hn, Result.andThen_ok]
      rw [if_neg (fun e => hz (by rw [hn, e]))]
      rfl
    have hsz : (szA P f.type).isSome ∨ szA P f.type = none := by cases szA P f.type <;> simp
    split at h
    · rename_i b o
      split at h
      · rename_i hs
        simp only [Option.some.injEq] at h
        subst h
        cases hx with
        | bp _ _ blk ob hb =>
        refine ⟨.pointer (some ⟨blk, ob + o + f.offset, none⟩), ?_, by rw [Nat.add_assoc]; exact .bp b _ blk ob hb⟩
        simp only [Instr.fieldAt, Sem.run_bind, run_under hu, Result.andThen_ok, hfi, Instr.sureAddr, Sem.run_pure, hplace _ hs, addr_add]
      · simp at h
    · rename_i l g
      split at h
      · rename_i hs
        simp only [Option.some.injEq] at h
        subst h
        cases hx with
        | ip _ _ blk ob cv ha hc hr =>
        refine ⟨.pointer (some ⟨blk, ob + f.offset, none⟩), ?_, .ip _ _ blk _ (fun q => cv (f.offset + q)) (ha.imp (fun h => by simp [h]) id) ?_ ?_⟩
        · simp only [Instr.fieldAt, Sem.run_bind, run_under hu, Result.andThen_ok, hfi, Instr.sureAddr, Sem.run_pure, hplace _ hs, addr_add]
        · intro q hq
          have := hc (f.offset + q) (by simp at hq; omega)
          rw [Nat.add_assoc]; exact this
        · intro q y hy
          rw [List.getElem?_drop] at hy
          exact hr _ _ hy
      · simp at h
    · simp at h

/-- a part of an aggregate's cells -/
theorem partA_ok {im : Bool → Nat → Prop} {t : TypeId} {l : List AV} {c : Array Value} {off : Nat} {r : AV} (h : partA P t l off = some r) (hx : VR w im β (.agg l) (.agg c)) :
    ∃ v, (part t c off).run P w = .ok v w ∧ VR w im β r v := by
  cases hx with
  | agg _ _ hs ho hv =>
  unfold partA at h
  split at h
  · rename_i n hsz hg
    split at h
    · rename_i hle
      simp only [Option.some.injEq] at h
      subst h
      refine ⟨.agg (c.extract off (off + n)), ?_, .agg _ _ ?_ ?_ ?_⟩
      · simp only [part, Sem.run_bind, run_agA hg, Result.andThen_ok, if_true, run_szA hsz, Sem.run_pure]
      · simp; omega
      · intro i y hy
        rw [Array.getElem?_extract] at hy
        split at hy
        · exact ho _ _ hy
        · simp at hy
      · intro i x y hx hy
        rw [List.getElem?_take] at hx
        split at hx
        · rw [List.getElem?_drop] at hx
          rw [Array.getElem?_extract] at hy
          split at hy
          · exact hv _ _ _ hx hy
          · simp at hy
        · simp at hx
    · simp at h
  · rename_i hg
    have hlt : off < l.length := (List.getElem?_eq_some_iff.mp h).1
    have hc : c[off]? = some (c[off]'(by omega)) := Array.getElem?_eq_getElem (by omega)
    refine ⟨c[off]'(by omega), ?_, hv _ _ _ h hc⟩
    simp only [part, Sem.run_bind, run_agA hg, Result.andThen_ok, Bool.false_eq_true, if_false, hc, Sem.run_pure]
  · simp at h

theorem indexA_ok {im : Bool → Nat → Prop} {t : TypeId} {x i r : AV} {vx vi : Value} (h : indexA P t x i = some r) (hx : VR w im β x vx) (hi : VR w im β i vi) :
    ∃ v, (Instr.index t vx vi).run P w = .ok v w ∧ VR w im β r v := by
  unfold indexA at h
  split at h
  · rename_i l
    simp only [Option.bind_eq_some_iff] at h
    obtain ⟨⟨n, e⟩, hn, sz, hs, o, ho, h⟩ := h
    obtain ⟨k, j, rfl, h0, h1, rfl⟩ := idxI_spec ho
    cases hi
    have hu := arA_spec hn
    cases hx with
    | agg _ c hs' ho' hv =>
    rw [Nat.zero_add] at h
    obtain ⟨v, h2, h3⟩ := partA_ok h (VR.agg l c hs' ho' hv)
    refine ⟨v, ?_, h3⟩
    simp only [Instr.index, asIntOf, Sem.run_bind, Sem.run_pure, Result.andThen_ok, run_under hu]
    rw [if_pos ⟨h0, h1⟩]
    simp only [Sem.run_bind, run_szA hs, Result.andThen_ok, h2]
  · rename_i s
    split at h
    · rename_i hst
      have hu := isStr_spec hst
      split at h
      · rename_i k n
        split at h
        · rename_i hc
          simp only [Option.some.injEq] at h
          subst h
          cases hx; cases hi
          refine ⟨_, ?_, .v _⟩
          simp only [Instr.index, asIntOf, Sem.run_bind, Sem.run_pure, Result.andThen_ok, run_under hu]
          rw [if_pos hc.1]
          have hlt : n.toNat < s.size := by omega
          have : s[n.toNat]? = some s[n.toNat] := by simp [hlt]
          rw [this]
          simp only [Sem.run_pure]
          congr 3
          simp only [Array.getD_eq_getD_getElem?]
          have h2 : s.data[n.toNat]? = some (s.data[n.toNat]'hlt) := Array.getElem?_eq_getElem hlt
          rw [h2]
          rfl
        · simp at h
      · simp at h
    · simp at h
  · simp at h

theorem fieldA_ok {im : Bool → Nat → Prop} {t : TypeId} {x r : AV} {i : Nat} {vx : Value} (h : fieldA P t x i = some r) (hx : VR w im β x vx) :
    ∃ v, (Instr.field t vx i).run P w = .ok v w ∧ VR w im β r v := by
  unfold fieldA at h
  split at h
  · rename_i l
    rw [Option.bind_eq_some_iff] at h
    obtain ⟨⟨off, ft⟩, hf, h⟩ := h
    obtain ⟨fs, f, hu, hfi, rfl, rfl⟩ := fiA_spec hf
    cases hx with
    | agg _ c hs' ho' hv =>
    obtain ⟨v, h2, h3⟩ := partA_ok h (VR.agg l c hs' ho' hv)
    exact ⟨v, by simp only [Instr.field, Sem.run_bind, run_under hu, Result.andThen_ok, hfi, asAgg, Sem.run_pure, h2], h3⟩
  · simp at h

theorem extract_ok {im : Bool → Nat → Prop} {l : List AV} {i : Nat} {r : AV} {vx : Value} (h : l[i]? = some r) (hx : VR w im β (.tup l) vx) :
    ∃ v, (Instr.extract vx i).run P w = .ok v w ∧ VR w im β r v := by
  cases hx with
  | tup _ c hs hv =>
  have hlt : i < l.length := (List.getElem?_eq_some_iff.mp h).1
  have hc : c[i]? = some (c[i]'(by omega)) := Array.getElem?_eq_getElem (by omega)
  exact ⟨_, by simp only [Instr.extract, hc, Sem.run_pure], hv _ _ _ h hc⟩

theorem arrPtrA_ok {t : TypeId} {x r : AV} {vx : Value} (h : arrPtrA P t x = some r) (hx : VR w (im G w β) β x vx) :
    ∃ v, (Instr.arrayAt t vx).run P w = .ok v w ∧ VR w (im G w β) β r v := by
  unfold arrPtrA at h
  rw [Option.bind_eq_some_iff] at h
  obtain ⟨⟨n, e⟩, hn, h⟩ := h
  have hu := arA_spec hn
  simp only at h
  split at h
  · rename_i b off m sz
    split at h
    · rename_i hc'
      simp only [Option.some.injEq] at h
      subst h
      cases hx with
      | bsl _ _ _ _ blk ob a cap hb hnc he ha hc =>
        have ha' : a = ⟨blk, ob + off, none⟩ := ha.resolve_right (fun h => by omega)
        subst ha'
        refine ⟨_, ?_, .bp b off blk ob hb⟩
        simp only [Instr.arrayAt, Sem.run_bind, run_under hu, Result.andThen_ok]
        rw [if_neg (by omega)]
        rfl
      | bslU _ _ a hb => omega
    · simp at h
  · rename_i m l f
    split at h
    · rename_i hc'
      simp only [Option.some.injEq] at h
      subst h
      cases hx with
      | sl _ _ _ a cap blk off cv hnc ha hc hr =>
      rcases ha with ⟨rfl, rfl⟩ | ⟨rfl, hm⟩
      · omega
      · refine ⟨_, ?_, .ip _ _ blk off cv (.inr hm) hc hr⟩
        simp only [Instr.arrayAt, Sem.run_bind, run_under hu, Result.andThen_ok]
        rw [if_neg (by omega)]
        rfl
    · simp at h
  · simp at h
end
end Go.Sy
