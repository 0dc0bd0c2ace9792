/-
  Layer 09: maps.Clean as the reader takes it.
-/
import Derived.Test.YtapjcmloaeaefaaPfClnX
import Derived.Test.YtapjcmloaeaefaaPfMapS
namespace Go.Sy
open Go.Proofs Go.Proofs.Ytapjcmloaeaefaa Go.RowKit

noncomputable def extD : FnA := fun f args bx =>
  if f = 24 then (match args with
    | [.agg l, .agg [.v (.int .i64 a), .v (.int .i64 b), .v (.int .i64 c)]] => (byA8 l).bind fun p => if p.length = 54 then some (.v (.bool (Pre.clV p a b c)), bx) else none
    | _ => none)
  else extC f args bx
theorem agg_ld {w : World} {im : Bool → Nat → Prop} {β : Beta} {p : List UInt8} {v : Value} (h : VR w im β (.agg (u8l p)) v) : v = .agg (Pre.ldC p) := by
  cases h with
  | agg _ c hs ho hc =>
    congr 1
    apply Array.ext_getElem?
    intro i
    unfold Pre.ldC
    show c[i]? = ((p.map fun x => Value.int .u8 (x.toNat : Int)).toArray)[i]?
    have e2 : ((p.map fun x => Value.int .u8 (x.toNat : Int)).toArray)[i]? = (p.map fun x => Value.int .u8 (x.toNat : Int))[i]? := by simp
    rw [e2, List.getElem?_map]
    by_cases hi : i < p.length
    · have hx : (u8l p)[i]? = some (.v (.int .u8 (p[i].toNat : Int))) := by
        unfold u8l
        rw [List.getElem?_map, List.getElem?_eq_getElem hi]
        rfl
      have hi' : i < c.size := by rw [hs, u8l_len]; exact hi
      have := hc i _ _ hx (Array.getElem?_eq_getElem hi')
      rw [List.getElem?_eq_getElem hi, Array.getElem?_eq_getElem hi']
      generalize c[i] = y at this
      cases this
      rfl
    · rw [List.getElem?_eq_none (by omega), Array.getElem?_eq_none (by rw [hs, u8l_len]; omega)]
      rfl
theorem agg_g {w : World} {im : Bool → Nat → Prop} {β : Beta} {a b c : Int} {v : Value} (h : VR w im β (.agg [.v (.int .i64 a), .v (.int .i64 b), .v (.int .i64 c)]) v) : v = .agg (Pre.gC a b c) := by
  cases h with
  | agg _ c hs ho hc =>
    obtain ⟨c⟩ := c
    match c, hs with
    | [x, y, z], _ =>
      have h0 := hc 0 _ _ rfl rfl
      have h1 := hc 1 _ _ rfl rfl
      have h2 := hc 2 _ _ rfl rfl
      cases h0
      cases h1
      cases h2
      rfl
theorem extD_ok (f : FuncId) (args : List AV) (bx : Bx) (r : AV) (bx' : Bx) (h : extD f args bx = some (r, bx')) : Sound Try.prog f args bx r bx' := by
  unfold extD at h
  split at h
  · rename_i hf
    subst hf
    split at h
    · rename_i l a b c
      rw [Option.bind_eq_some_iff] at h
      obtain ⟨p, hp, h⟩ := h
      split at h
      · rename_i hl
        simp only [Option.some.injEq, Prod.mk.injEq] at h
        obtain ⟨rfl, rfl⟩ := h
        have := byA8_inv hp
        subst this
        refine ⟨fun vs w => ?_, fun G w β vs hz hM hs hv => ?_⟩
        · unfold callFunc
          simp only [Sem.run_bind, run_program, Result.andThen_ok, Try.func24]
          rw [if_neg (by decide +kernel), if_neg (by decide +kernel)]
          simp
        · obtain ⟨x⟩ := vs
          match x, hs with
          | [v, v'], _ =>
            have h0 := agg_ld (hv 0 _ _ rfl rfl)
            have h1 := agg_g (hv 1 _ _ rfl rfl)
            subst h0 h1
            refine (Pre.clean_calls p hl a b c w).mono ?_
            rintro e w' ⟨rfl, hb⟩
            obtain ⟨m1, e1⟩ := hM.below hb
            exact ⟨_, β, rfl, e1.weaken fun _ _ => rfl, m1, .v _⟩
      · cases h
    · cases h
  · exact extC_ok f args bx r bx' h
end Go.Sy
