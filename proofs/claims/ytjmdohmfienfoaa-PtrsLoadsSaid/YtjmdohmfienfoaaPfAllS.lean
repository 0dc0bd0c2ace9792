/-
  Layer 11: ptrs.All and ptrs.Used as the reader takes them.
-/
import Derived.Test.YtjmdohmfienfoaaPfAll
import Derived.Test.YtjmdohmfienfoaaSyGrow
import Derived.Test.YtjmdohmfienfoaaSyStep
import Derived.KernelRfl
namespace Go.Sy
open Go.Proofs Go.Proofs.Ytjmdohmfienfoaa Go.RowKit

/-- a load's pointers -/
def ptP (p : List UInt8) : List (Nat × Nat) := upto (fun j => (j, Pre.ptV p (j : Int))) 27
def wdl (l : List (Nat × Nat)) : List AV := l.map fun x => .v (.int .u16 (x.2 : Int))
def byA8 : List AV → Option (List UInt8)
  | [] => some []
  | .v (.int .u8 n) :: r => if n = ((UInt8.ofNat n.toNat).toNat : Int) then (byA8 r).map fun l => UInt8.ofNat n.toNat :: l else none
  | _ => none
theorem byA8_u8l (b : List UInt8) : byA8 (u8l b) = some b := by
  induction b with
  | nil => rfl
  | cons x b ih =>
    show (if ((x.toNat : Int)) = ((UInt8.ofNat ((x.toNat : Int)).toNat).toNat : Int) then (byA8 (u8l b)).map (fun l => UInt8.ofNat ((x.toNat : Int)).toNat :: l) else none) = some (x :: b)
    rw [ih, Int.toNat_natCast, UInt8.ofNat_toNat, if_pos rfl]
    rfl
theorem byA8_inv : ∀ {l : List AV} {p : List UInt8}, byA8 l = some p → l = u8l p
  | [], p, h => by
    simp only [byA8, Option.some.injEq] at h
    subst h
    rfl
  | x :: l, p, h => by
    unfold byA8 at h
    split at h
    · rename_i e
      cases e
    · rename_i n r e
      simp only [List.cons.injEq] at e
      obtain ⟨rfl, rfl⟩ := e
      split at h
      · rename_i hn
        rw [Option.map_eq_some_iff] at h
        obtain ⟨q, h1, rfl⟩ := h
        rw [byA8_inv h1]
        show _ = AV.v (.int .u8 ((UInt8.ofNat n.toNat).toNat : Int)) :: u8l q
        rw [← hn]
      · cases h
    · cases h
def extC : FnA := fun f args bx =>
  if f = 19 then (match args with
    | [.agg l] => (byA8 l).bind fun p => if p.length = 54 then some (.sl 27 (wdl (ptP p)) false, bx) else none
    | _ => none)
  else if f = 21 then (match args with
    | [.agg l] => (byA8 l).bind fun p => if p.length = 54 then some (.v (.int .i64 (usd (ptP p))), bx) else none
    | _ => none) else none
theorem agg_ld {w : World} {im : Bool → Nat → Prop} {β : Beta} {p : List UInt8} {v : Value} (h : VR w im β (.agg (u8l p)) v) : v = .agg (ldC p) := by
  cases h with
  | agg _ c hs ho hc =>
    congr 1
    apply Array.ext_getElem?
    intro i
    unfold ldC
    show c[i]? = ((p.map fun x => Value.int .u8 (x.toNat : Int)).toArray)[i]?
    have e2 : ((p.map fun x => Value.int .u8 (x.toNat : Int)).toArray)[i]? = (p.map fun x => Value.int .u8 (x.toNat : Int))[i]? := by simp
    rw [e2, List.getElem?_map]
    by_cases hi : i < p.length
    · have hx : (u8l p)[i]? = some (.v (.int .u8 (p[i].toNat : Int))) := by
        unfold u8l
        rw [List.getElem?_map, List.getElem?_eq_getElem hi]
        rfl
      have hi' : i < c.size := by rw [hs, u8l_len]; exact hi
      have := hc i _ _ hx (Array.getElem?_eq_getElem hi')
      rw [List.getElem?_eq_getElem hi, Array.getElem?_eq_getElem hi']
      generalize c[i] = y at this
      cases this
      rfl
    · rw [List.getElem?_eq_none (by omega), Array.getElem?_eq_none (by rw [hs, u8l_len]; omega)]
      rfl
theorem row_sl {w : World} {G : Gh} {β : Beta} {bx : Bx} (hM : MR G w β bx) {w' : World} (hb : Below w.heap.size w w') (v : Value) (l : List (Nat × Nat)) (hl : l.length = 27) (hr : w'.ownsRow w.heap.size 41 1 v 27 (wds l)) (m1 : MR G w' β bx) :
    VR w' (im G w' β) β (.sl 27 (wdl l) false) v := by
  obtain ⟨hlen, ⟨rfl, h0⟩ | ⟨g, cap, cur, rfl, hg, hgb, hcap, _, hsz, hxs⟩⟩ := hr
  · omega
  have hgl := (Array.getElem?_eq_some_iff.1 hgb).1
  refine .sl 27 _ false _ cap g 0 (fun i => ((wds l)[i]?).getD undef) hcap (.inr ⟨rfl, .inr ⟨Nat.le_trans hM.sz hg, hgl, ?_⟩⟩) ?_ ?_
  · rintro ⟨b, o, hβ⟩
    have := hM.blt hβ
    omega
  · intro i hi
    have hi27 : i < 27 := by simpa [wdl, hl] using hi
    have hw : (wds l)[i]? = some (.int .u16 (l[i].2 : Int)) := by
      unfold wds
      rw [List.getElem?_map, List.getElem?_eq_getElem (by omega)]
      rfl
    refine ⟨?_, by simp only [hw, Option.getD_some]; rfl⟩
    simp only [World.cell?, hgb, hw, Option.getD_some, Nat.zero_add]
    rw [← hw, ← hxs, List.getElem?_take_of_lt (by omega)]
    simp
  · intro i x hx
    have hi27 : i < 27 := by simpa [wdl, hl] using (List.getElem?_eq_some_iff.1 hx).1
    have hw : (wds l)[i]? = some (.int .u16 (l[i].2 : Int)) := by
      unfold wds
      rw [List.getElem?_map, List.getElem?_eq_getElem (by omega)]
      rfl
    have hx' : (wdl l)[i]? = some (.v (.int .u16 (l[i].2 : Int))) := by
      unfold wdl
      rw [List.getElem?_map, List.getElem?_eq_getElem (by omega)]
      rfl
    rw [hx', Option.some.injEq] at hx
    subst hx
    simp only [hw, Option.getD_some]
    exact .v _
theorem extC_ok (f : FuncId) (args : List AV) (bx : Bx) (r : AV) (bx' : Bx) (h : extC f args bx = some (r, bx')) : Sound Try.prog f args bx r bx' := by
  unfold extC at h
  split at h
  · rename_i hf
    subst hf
    split at h
    · rename_i l
      rw [Option.bind_eq_some_iff] at h
      obtain ⟨p, hp, h⟩ := h
      split at h
      · rename_i hl
        simp only [Option.some.injEq, Prod.mk.injEq] at h
        obtain ⟨rfl, rfl⟩ := h
        have := byA8_inv hp
        subst this
        refine ⟨fun vs w => ?_, fun G w β vs hz hM hs hv => ?_⟩
        · unfold callFunc
          simp only [Sem.run_bind, run_program, Result.andThen_ok, Try.func19]
          rw [if_neg (by decide +kernel), if_neg (by decide +kernel)]
          simp
        · obtain ⟨a⟩ := vs
          match a, hs with
          | [v], _ =>
            have h0 := agg_ld (hv 0 _ _ rfl rfl)
            subst h0
            refine (callsIn_wide.1 (all_in 5 (by omega) p hl w)).mono ?_
            rintro e w' ⟨v, rfl, hr, hb⟩
            obtain ⟨m1, e1⟩ := hM.below hb
            exact ⟨v, β, rfl, e1.weaken fun _ _ => rfl, m1, row_sl hM hb v _ (upto_length _ _) hr m1⟩
      · cases h
    · cases h
  · split at h
    · rename_i hf
      subst hf
      split at h
      · rename_i l
        rw [Option.bind_eq_some_iff] at h
        obtain ⟨p, hp, h⟩ := h
        split at h
        · rename_i hl
          simp only [Option.some.injEq, Prod.mk.injEq] at h
          obtain ⟨rfl, rfl⟩ := h
          have := byA8_inv hp
          subst this
          refine ⟨fun vs w => ?_, fun G w β vs hz hM hs hv => ?_⟩
          · unfold callFunc
            simp only [Sem.run_bind, run_program, Result.andThen_ok, Try.func21]
            rw [if_neg (by decide +kernel), if_neg (by decide +kernel)]
            simp
          · obtain ⟨a⟩ := vs
            match a, hs with
            | [v], _ =>
              have h0 := agg_ld (hv 0 _ _ rfl rfl)
              subst h0
              refine (callsIn_wide.1 (used_in 5 (by omega) p hl w)).mono ?_
              rintro e w' ⟨rfl, hb⟩
              obtain ⟨m1, e1⟩ := hM.below hb
              exact ⟨_, β, rfl, e1.weaken fun _ _ => rfl, m1, .v _⟩
        · cases h
      · cases h
    · cases h
end Go.Sy
