/- Symbolic walks, eleventh part: the head of a region that draws its order; the rule. No condition on any program. -/
import Derived.Test.YtbcoanbjhbppcaaSym10
namespace Go.Proofs.Ytbcoanbjhbppcaa
set_option linter.unusedVariables false
open Go.RowKit

theorem spHead_sound {x : Cx} (hL : LayOk x.P x.L) {ops : List Oper} {m0 : List (Nat × List SV)} {u : World} {K : St → Prop} {Q : List Fact → Act → Prop}
    (hQ : ∀ tags r s fs a, K s → HI x u m0 tags r s fs a → Q fs a) :
    ∀ (L : List Nat) (tags : List (Nat × Nat)) (r : Nat → Nat) (s : St) (fs : List Fact) (a : Act), spHead x ops m0 L tags s K → HI x u m0 tags r s fs a → wpM x.P .any ops.toArray Grown u Q L fs a
  | [], tags, r, s, fs, a, h, hi => hQ tags r s fs a h hi
  | j :: L, tags, r, s, fs, a, h, hi => by
    intro hwit
    unfold spHead at h
    cases ho : nth ops j with
    | none => simp [ho] at h
    | some o =>
      simp only [ho] at h
      have hoj : ops.toArray[j]? = some o := (nth_eq ops j).trans ho
      obtain ⟨s1, y, hk, hm1, hn1, hw, _, hok⟩ := guardS_sound h
      obtain ⟨he1, hwant⟩ := hw r a hi.env
      have hi1 : HI x u m0 tags r s1 fs a := hi.know hm1 hn1 he1 (hok s.nb hi.envOk)
      cases y with
      | false =>
        obtain ⟨s2, hs2, hput⟩ := putS_HI hk
        have := spHead_sound hL hQ L tags r s2 fs _ hs2 (hput u m0 tags r fs a hi1)
        exact mOp_q hoj (v := undef) (.inr ⟨hwant, rfl⟩) this
      | true =>
        have pure_ : ev x.P x.L x.D x.w0 ⟨s1.env, m0, s1.nb⟩ (fun v => putS x s1 o.dst v fun s'' => spHead x ops m0 L tags s'' K) o.op → mOp x.P .any ops.toArray Grown u j (wpM x.P .any ops.toArray Grown u Q L) fs a := by
          intro h
          obtain ⟨v, hK, hv⟩ := ev_sound hL h
          obtain ⟨s2, hs2, hput⟩ := putS_HI hK
          refine mOp_q hoj (v := den r v) (.inl ⟨hwant, fun w hcl => ?_⟩) (spHead_sound hL hQ L tags r s2 fs _ hs2 (hput u m0 tags r fs a hi1))
          unfold Oper.quietAt
          rw [hv r a w hi1.env (hi1.mem0 hcl.1)]
          exact ⟨rfl, rfl⟩
        have new_ : evNew x.L s1 (headOp.newK x j o tags s1 fun tags' s'' => spHead x ops m0 L tags' s'' K) o.op → mOp x.P .any ops.toArray Grown u j (wpM x.P .any ops.toArray Grown u Q L) fs a := by
          intro h
          obtain ⟨c, sh, hK, hal, hv⟩ := evNew_sound hL h
          unfold headOp.newK at hK
          split at hK
          · rename_i hc
            obtain ⟨t, ht⟩ := hv r a hi1.env
            obtain ⟨s2, hs2, hput⟩ := putS_HI hK
            refine mOp_a hoj ⟨hwant, hal, fun w _ => ht w⟩ (fun b hb hfar _ => ?_)
            have hn := hput _ _ _ _ _ _ (hi1.newB hc (j := j) (t := t) hb hfar)
            rw [den_svSh] at hn
            exact spHead_sound hL hQ L _ _ s2 _ _ hs2 hn
          · exact hK.elim
        obtain ⟨dst, op, type, pos, after, guard⟩ := o
        simp only at hk
        unfold headOp at hk
        cases op
        case store => exact hk.elim
        case alloc t => exact new_ hk
        case box t y => exact new_ hk
        case buildSlice t n ps => exact new_ hk
        case call c =>
          obtain ⟨cal, as, ts⟩ := c
          cases cal
          case invoke => exact hk.elim
          case builtin b => exact pure_ hk
          case value f =>
            obtain ⟨v, hK, hv⟩ := evCall_sound hk
            obtain ⟨s2, hs2, hput⟩ := putS_HI hK
            refine mOp_c hoj (S := fun v' _ _ _ => v' = den r v) ⟨hwant, rfl, fun _ _ _ _ _ h _ => h, fun w hcl => ?_⟩ (fun v' lo hi' _ _ _ b4 => ?_)
            · obtain ⟨g, args, hrun, hc⟩ := hv r a w hi1.env (hi1.memVis hcl) dst ts type pos after guard
              unfold gives
              rw [hrun]
              exact ⟨rfl, hc.mono fun e w' ⟨e1, e2⟩ => ⟨_, e1, e2, rfl⟩⟩
            · obtain ⟨w, hw⟩ := b4
              have : v' = den r v := (hw.2 _ List.mem_cons_self).1
              subst this
              exact spHead_sound hL hQ L tags r s2 _ _ hs2 ((hput u m0 tags r fs a hi1).more _)
        all_goals exact pure_ hk

/-- A region that draws its order: the head is walked in the order 'L', the tail as it stands. -/
def spDraw (x : Cx) (ops : List Oper) (n : Nat) (L : List Nat) (s : St) (K : St → Prop) : Prop :=
  spHead x ops s.mem L [] s fun s' => spSeq x ops (ops.drop n) s' K
theorem spDraw_sound {x : Cx} (hL : LayOk x.P x.L) (hm : x.P.follows .mixedOrders = true) {ops : List Oper} {n : Nat} {L : List Nat} (hB : regionB .any ops.toArray n L = true) {s : St} {K : St → Prop} (h : spDraw x ops n L s K)
    {Q : Exit → Act → World → Prop} (hQ : ∀ s r a w, K s → Rep x r s a w → Q .normal a w) {r : Nat → Nat} {a : Act} {w : World} (hr : Rep x r s a w) {id : Nat} : (Code.region id ops.toArray true).wp x.P Q a w := by
  refine wp_region_M n L hm hB (grown_stays _) ?_
  refine spHead_sound (u := w.drew) hL (fun tags r s fs a hs hi w' hw' => spSeq_sound hL hQ _ s r a w' hs (hi.rep hw')) L [] r s [] a h ?_
  exact ⟨hr.defers, hr.size, hr.env, hr.envOk, hr.memOk, hr.inj, fun k hk _ => hr.lt k hk, hr.own, hr.pin, hr.mem.2.grown (Grown.refl w).drew, fun k c hk => ⟨rfl, hk⟩, fun k c hk _ => hr.mem.1 k c hk, fun k i hk => by cases hk⟩
end Go.Proofs.Ytbcoanbjhbppcaa
