/- Parts of the proof. No condition. -/
import Derived.Test.YtkageldgmkajbaaQ2
set_option linter.unusedVariables false
set_option linter.unusedSimpArgs false
set_option linter.unusedSectionVars false
namespace Go.Proofs.Ytkageldgmkajbaa
open Go.RowKit
abbrev BaseR (c : Ty) := Option (List (El c) × List Nat × Option Nat × Bool × List Prop)
def baseK (c : Ty) (m : Md) (k : Nat) (xs : List (El c)) (obs : List Prop) : BaseR c := match m with
  | .own => some (xs, [k], some k, false, obs)
  | .sh => some (xs, [k], some k, true, obs)
  | _ => none
def baseS (mem : List (Nat × MB)) (c : Ty) : SV → BaseR c
  | .val (.slice none 0 0) => some ([], [], none, false, [])
  | .slc k 0 n cap => match find mem k with
    | some (.cells cs) => match n, cap with
      | 0, 0 => some ([], [], none, false, [])
      | n, cap => match rowsT mem c n cs, Nat.beq n cap, Nat.ble cap 16777216 with
        | some (ys, ps, b, obs), true, true => match nodupB (kills ps) with
          | true => some (ys, k :: kills ps, some k, b, obs)
          | false => none
        | _, _, _ => none
    | _ => none
  | .sl ⟨k, []⟩ => match find mem k with
    | some (.list m c0 l0) => match castL (c' := c) l0 with
      | some l' => baseK c m k l' []
      | none => none
    | _ => none
  | .vw ⟨k, _⟩ _ _ n (some c') => match find mem k with
    | some (.hole _ _ _) => none
    | _ => match Nat.beq c' 0 with
      | true => some ([], [], none, false, [n = 0])
      | false => none
  | .vw ⟨k, []⟩ es i n none => match find mem k, Nat.beq es (wid c) with
    | some (.list m c0 l0), true => match castL (c' := c) l0 with
      | some l' => baseK c m k ((l'.drop i).take n) [i + n ≤ l'.length]
      | none => none
    | _, _ => none
  | _ => none
structure BaseV (mem : List (Nat × MB)) (V : Vl) (w : World) (p : SV) (md : Md) (ks : List Nat) (rs : Option Nat) (c : Ty) (ys : List (El c)) (a : Option Addr) (cap : Nat) (news : List Value) (pv : Pv) : Prop where
  src : SrcV mem V w p md ks c ys a cap news pv
  le : ys.length ≤ cap
  cm : cap ≤ maxLen
  blk : cap = 0 ∨ ∃ kb a0 cs t0, rs = some kb ∧ a = some a0 ∧ a0.spot = none ∧ w.heap[a0.block]? = some (.cells cs t0) ∧ a0.off + cap * wid c ≤ cs.size ∧ (V ⟨kb, []⟩).b = a0.block ∧ ∃ b0, cont mem ⟨kb, []⟩ = some b0 ∧ liveB (V ⟨kb, []⟩) b0 ∧ kindB b0 = .own
  rk : ∀ kb, rs = some kb → kb ∈ ks ∧ ∀ m c0 l0, find mem kb = some (.list m c0 l0) → m ≠ .fz
  rp : ∀ a j ρ kb, pv a j = some ρ → rs = some kb → ρ.k = kb → ρ.p ≠ []
theorem baseS_ok {D0 : Nat → Prop} {V : Vl} {s : St} {w : World} (hE : Ents D0 V s w) {c : Ty} {p : SV} {ys : List (El c)} {ks : List Nat} {rs : Option Nat} {b : Bool} {obs : List Prop} {md : Md} (h : baseS s.mem c p = some (ys, ks, rs, b, obs)) (ho : AllP obs) (hmd : b = true → md = .sh) :
    ∃ a cap news pv, BaseV s.mem V w p md ks rs c ys a cap news pv := by
  have nilc : ∀ {p : SV} {a : Option Addr}, den V p = .slice a 0 0 → BaseV s.mem V w p md [] none c ([] : List (El c)) a 0 [] (fun _ _ => none) := by
    intro p a hp
    exact ⟨⟨hp, RowsP.nil, (fun j u h => by simp at h), (fun _ => rfl), (fun a j ρ m c0 l0 h => by cases h), (fun a j ρ h => by cases h), (fun a j ρ m c0 l0 h => by cases h)⟩, Nat.le_refl _, Nat.zero_le _, .inl rfl, (fun kb h => by cases h), (fun a j ρ kb h => by cases h)⟩
  have lst : ∀ {k : Nat} {m : Md} {l : List (El c)} {i n : Nat} {ys : List (El c)} {ks : List Nat} {rs : Option Nat} {b : Bool} {obs' obs : List Prop}, find s.mem k = some (.list m c l) → i + n ≤ l.length → baseK c m k ((l.drop i).take n) obs' = some (ys, ks, rs, b, obs) → (b = true → md = .sh) →
      ∀ {p : SV} {a : Option Addr} {cap : Nat}, den V p = .slice a n cap → cap = (V ⟨k, []⟩).cap - i → (∀ a0, (V ⟨k, []⟩).a = some a0 → a0.spot = none → 0 < cap → a = some ⟨a0.block, a0.off + i * wid c, none⟩) → (a = none → n = 0) → ∃ news pv, BaseV s.mem V w p md ks rs c ys a cap news pv := by
    intro k m l i n ys ks rs b obs' obs hf hin hk hmd p a cap hden hcap ha hn
    have hc : cont s.mem ⟨k, []⟩ = some (.list (m.at []) c l) := cont_iff.2 ⟨_, hf, rfl⟩
    have hat := hE.at_ _ _ hc
    obtain ⟨hm, rfl, rfl, rfl⟩ : ((m = .own ∨ (m = .sh ∧ b = true)) ∧ ys = (l.drop i).take n ∧ ks = [k] ∧ rs = some k) := by
      unfold baseK at hk
      split at hk
      · simp only [Option.some.injEq, Prod.mk.injEq] at hk
        obtain ⟨rfl, rfl, rfl, rfl, rfl⟩ := hk
        exact ⟨.inl rfl, rfl, rfl, rfl⟩
      · simp only [Option.some.injEq, Prod.mk.injEq] at hk
        obtain ⟨rfl, rfl, rfl, rfl, rfl⟩ := hk
        exact ⟨.inr ⟨rfl, rfl⟩, rfl, rfl, rfl⟩
      · cases hk
    have hkd : m.at [] = .own := by rcases hm with rfl | ⟨rfl, _⟩ <;> rfl
    obtain ⟨news, hR, hr, h0⟩ := rows_list (r := ⟨k, []⟩) (md := md) (ks := [k]) (i := i) (n := n) hf rfl hat hin (by
      rcases hm with rfl | ⟨rfl, hb⟩
      · exact .inr (.inl ⟨rfl, List.mem_singleton_self _⟩)
      · exact .inr (.inr (.inl ⟨rfl, hmd hb⟩)))
    have hlen : ((l.drop i).take n).length = n := by rw [List.length_take, List.length_drop]; omega
    obtain ⟨q1, q2, q3, q4⟩ := hat
    have hle : n ≤ cap := by omega
    refine ⟨news, pvR c ⟨k, []⟩ i, ⟨by rw [hlen]; exact hden, hR, fun j u hu => ?_, by rw [hlen]; exact hn, fun a j ρ m' c1 l1 e1 e2 e3 => ?_, fun a j ρ e1 => ?_, fun a j ρ m' c1 l1 e1 e2 e3 => .inr (by obtain ⟨rfl, hns⟩ := pvR_some e1; simp)⟩, by rw [hlen]; exact hle, ?_, ?_, fun kb hkb => ?_, fun a j ρ kb e1 e2 e3 => ?_⟩
    · rcases hr with rfl | ⟨a0, g1, g2, g3⟩
      · simp at hu
      · have hn0 : 0 < n := by
          rcases Nat.eq_zero_or_pos n with h | h
          · rw [h0 h] at hu; simp at hu
          · exact h
        refine ⟨_, ha a0 g1 g2 (by omega), ?_⟩
        rw [Addr.add_mid]
        exact g3 j u hu
    · obtain ⟨rfl, hns⟩ := pvR_some e1
      exact List.mem_singleton_self _
    · obtain ⟨rfl, hns⟩ := pvR_some e1
      exact ⟨m, c, l, hf⟩
    · rcases q3 hkd with h | ⟨_, _, _, _, _, _, _, h⟩ <;> omega
    · rcases Nat.eq_zero_or_pos cap with hz | hp
      · exact .inl hz
      · right
        rcases q3 hkd with h | ⟨a0, cs, t, g1, g2, g3, g4, g5⟩
        · omega
        · refine ⟨k, _, cs, t, rfl, ha a0 g1 g2 hp, rfl, g3, ?_, ?_, _, hc, ?_, hkd⟩
          · simp only
            have : i * wid c + cap * wid c = (V ⟨k, []⟩).cap * wid c := by rw [← Nat.add_mul]; congr 1; omega
            omega
          · unfold Loc.b; rw [g1]
          · rw [hkd]; simp only [liveB]; omega
    · cases hkb
      refine ⟨List.mem_singleton_self _, fun m' c0 l0 h => ?_⟩
      rw [hf] at h
      cases h
      rcases hm with rfl | ⟨rfl, _⟩ <;> simp
    · obtain ⟨rfl, hns⟩ := pvR_some e1
      simp
  unfold baseS at h
  split at h
  · simp only [Option.some.injEq, Prod.mk.injEq] at h
    obtain ⟨rfl, rfl, rfl, rfl, rfl⟩ := h
    exact ⟨none, 0, [], _, nilc rfl⟩
  · rename_i k n cap
    split at h
    · rename_i cs hf
      have hc : cont s.mem ⟨k, []⟩ = some (.cells cs) := cont_iff.2 ⟨_, hf, rfl⟩
      obtain ⟨bb, t, g1, g2⟩ := hE.at_ _ _ hc
      split at h
      · simp only [Option.some.injEq, Prod.mk.injEq] at h
        obtain ⟨rfl, rfl, rfl, rfl, rfl⟩ := h
        exact ⟨_, 0, [], _, nilc rfl⟩
      · split at h
        · rename_i ys0 ps b0 obs0 hr hnc hble
          split at h
          · rename_i hn
            simp only [Option.some.injEq, Prod.mk.injEq] at h
            obtain ⟨rfl, rfl, rfl, rfl, rfl⟩ := h
            have := Nat.eq_of_beq_eq_true hnc
            subst this
            obtain ⟨k1, k2, k3, k4⟩ := rowsT_ok (V := V) hr ho
            obtain ⟨a, cap, news, pv, hs⟩ := srcS_ok hE (c := c) (p := .slc k 0 n n) (ys := ys0) (ks := kills ps) (b := b0) (obs := obs0) (md := md) (by simp only [srcS, hf, hr, hn]) ho hmd
            have hd := hs.den
            simp only [den, Loc.at, g1, Option.map_some, Value.slice.injEq] at hd
            obtain ⟨rfl, _, rfl⟩ := hd
            have hle := Nat.le_of_ble_eq_true hble
            refine ⟨_, n, news, pv, ⟨hs.den, hs.rows.mono (fun k' h => List.mem_cons_of_mem _ h) (fun h => h), hs.read, hs.none, fun a j ρ m c0 l0 e1 e2 e3 => List.mem_cons_of_mem _ (hs.own a j ρ m c0 l0 e1 e2 e3), hs.is, fun a j ρ m c0 l0 e1 e2 e3 => (hs.own2 a j ρ m c0 l0 e1 e2 e3).imp_left (List.mem_cons_of_mem _)⟩, by omega, by simp only [maxLen]; omega, .inr ⟨k, ⟨bb, 0, none⟩, _, t, rfl, rfl, rfl, g2, ?_, ?_, _, hc, trivial, rfl⟩, fun kb h => ?_, fun a j ρ kb e1 e2 e3 => ?_⟩
            · simp [denL_length]; omega
            · unfold Loc.b; rw [g1]
            · cases h
              exact ⟨List.mem_cons_self, fun m c0 l0 h => by rw [hf] at h; cases h⟩
            · cases e2
              obtain ⟨m, c0, l0, h⟩ := hs.is a j ρ e1
              rw [e3, hf] at h
              cases h
          · cases h
        · cases h
    · cases h
  · rename_i k
    split at h
    · rename_i m c0 l0 hf
      split at h
      · rename_i l' hcst
        have he := castL_eq hcst
        cases he
        have hat := hE.at_ ⟨k, []⟩ _ (cont_iff.2 ⟨_, hf, rfl⟩)
        obtain ⟨news, pv, hs⟩ := lst (i := 0) (n := l'.length) (l := l') hf (by omega) (by simpa using h) hmd (p := .sl ⟨k, []⟩) (a := (V ⟨k, []⟩).a) (cap := (V ⟨k, []⟩).cap) (by simp only [den, Loc.hd, hat.1]) (by omega) (fun a0 h1 h2 _ => by obtain ⟨b, o, sp⟩ := a0; simp only at h2; subst h2; simp [h1]) (fun hn => by
            rcases Nat.eq_zero_or_pos l'.length with h | h
            · exact h
            · obtain ⟨a, g1, _⟩ := row_cells hat h
              rw [hn] at g1; cases g1)
        exact ⟨_, _, news, pv, hs⟩
      · cases h
    · cases h
  · split at h
    · cases h
    · split at h
      · rename_i hz
        simp only [Option.some.injEq, Prod.mk.injEq] at h
        obtain ⟨rfl, rfl, rfl, rfl, rfl⟩ := h
        have hc0 := Nat.eq_of_beq_eq_true hz
        have hn0 := ho.1
        subst hc0
        subst hn0
        exact ⟨_, 0, [], _, nilc rfl⟩
      · cases h
  · rename_i k es i n
    split at h
    · rename_i m c0 l0 hf hes
      have := Nat.eq_of_beq_eq_true hes
      subst this
      split at h
      · rename_i l' hcst
        have he := castL_eq hcst
        cases he
        have hin : i + n ≤ l'.length := by
          unfold baseK at h
          split at h <;> first | (cases h; done) | (simp only [Option.some.injEq, Prod.mk.injEq] at h; obtain ⟨_, _, _, _, rfl⟩ := h; exact ho.1)
        have hat := hE.at_ ⟨k, []⟩ _ (cont_iff.2 ⟨_, hf, rfl⟩)
        have hcap := list_cap hat
        obtain ⟨news, pv, hs⟩ := lst (i := i) (n := n) (l := l') hf hin h hmd (p := .vw ⟨k, []⟩ (wid c) i n none) (a := ((V ⟨k, []⟩).vw (wid c) i n none).a) (cap := (V ⟨k, []⟩).cap - i) rfl rfl (fun a0 h1 h2 hp => by
            obtain ⟨b, o, sp⟩ := a0
            simp only at h2
            subst h2
            simp only [Loc.vw, Option.getD_none, if_neg (Nat.pos_iff_ne_zero.1 hp), h1, Option.map_some, Addr.add_mid]) (fun hn => by
            rcases Nat.eq_zero_or_pos n with h | h
            · exact h
            · obtain ⟨a, g1, g2, _⟩ := row_cells (i := i) hat (by omega)
              rw [vw_some (cx := none) hat h hin trivial g1 g2] at hn; cases hn)
        exact ⟨_, _, news, pv, hs⟩
      · cases h
    · cases h
  · cases h
end Go.Proofs.Ytkageldgmkajbaa
namespace Go.Proofs.Ytkageldgmkajbaa
open Go.RowKit
theorem nodupB_app : ∀ {a b : List Nat}, nodupB (app a b) = true → ∀ k ∈ a, k ∉ b
  | [], b, _, k, h => by simp at h
  | x :: a, b, h, k, hk => by
    unfold app nodupB at h
    split at h
    · rename_i hn
      have hn' := notIn_spec hn
      rw [app_eq, List.mem_append, not_or] at hn'
      rcases List.mem_cons.1 hk with rfl | hk
      · exact hn'.2
      · exact nodupB_app h k hk
    · cases h
def ltAll (nb : Nat) : List Nat → Bool
  | [] => true
  | k :: l => match Nat.blt k nb with
    | true => ltAll nb l
    | false => false
theorem ltAll_spec {nb : Nat} : ∀ {l : List Nat}, ltAll nb l = true → ∀ k ∈ l, k < nb
  | [], _, k, h => by simp at h
  | x :: l, h, k, hk => by
    unfold ltAll at h
    split at h
    · rename_i hb
      rcases List.mem_cons.1 hk with rfl | hk
      · simpa [Nat.blt_eq] using hb
      · exact ltAll_spec h k hk
    · cases h
def mdOf : Bool → Md
  | true => .sh
  | false => .own
def appS (L : Lay) (s : St) (T : TypeId) (p q : SV) : Option (MB × List Nat × List Prop) := match find L T with
  | some ⟨_, .slice e es _, _, _⟩ => match find L e with
    | some ⟨_, _, by_, some c⟩ => match Nat.beq es (wid c), Nat.blt 0 by_ with
      | true, true => match baseS s.mem c p, srcS s.mem c q with
        | some (xs, k1, rs, b1, o1), some (ys, k2, b2, o2) => match nodupB (app k1 k2), ltAll s.nb (app k1 k2) with
          | true, true => some (.list (mdOf (orB b1 b2)) c (xs ++ ys), app k1 k2, ((xs.length + ys.length) * by_ ≤ 140737488355328) :: app o1 o2)
          | _, _ => none
        | _, _ => none
      | _, _ => none
    | _ => none
  | _ => none
section
variable {x : Cx} {s : St} (hL : LayOk x.P x.L)
include hL
theorem step_append {args : Array Operand} {ts : Array TypeId} {a b : Operand} {T : TypeId} {t : Nat} {ty : TypeId} {pos : String} {after : Array Edge} {gd : Option (Nat × Bool)} {p q : SV} {m : MB} {ks : List Nat} {obs : List Prop} (hargs : args.toList = [a, b]) (hts : ts.toList = [T, T]) (ha : s.get a = some p) (hb : s.get b = some q) (h : appS x.L s T p q = some (m, ks, obs)) (ho : AllP obs) (h1 : Nat.blt t x.n = true) :
    StepTo x s ⟨some t, .call ⟨.builtin .append, args, ts⟩, ty, pos, after, gd⟩ ⟨(t, .sl ⟨s.nb, []⟩) :: s.env, (s.nb, m) :: killL ks s.mem, s.nb + 1⟩ :=
  ⟨fun g V act w Q hr => by
    have e1 : args = #[a, b] := by apply Array.ext'; simpa using hargs
    have e2 : ts = #[T, T] := by apply Array.ext'; simpa using hts
    subst e1
    subst e2
    unfold appS at h
    split at h
    · rename_i zs e es ea b1 cd ht
      split at h
      · rename_i zs' td by_ c he
        split at h
        · rename_i hes hby
          split at h
          · rename_i xs k1 rs b1' o1 ys k2 b2' o2 hbase hsrc
            split at h
            · rename_i hnd hlt
              simp only [Option.some.injEq, Prod.mk.injEq] at h
              obtain ⟨rfl, rfl, rfl⟩ := h
              obtain ⟨hroom, ho'⟩ := ho
              obtain ⟨ho1, ho2⟩ := AllP_app.1 ho'
              have hby' : 0 < by_ := by simpa [Nat.blt_eq] using hby
              have hes' := Nat.eq_of_beq_eq_true hes
              have hmd1 : b1' = true → mdOf (orB b1' b2') = .sh := fun h => by subst h; rfl
              have hmd2 : b2' = true → mdOf (orB b1' b2') = .sh := fun h => by subst h; cases b1' <;> rfl
              obtain ⟨ab, cb, pre, pv1, B⟩ := baseS_ok hr.ents hbase ho1 hmd1
              obtain ⟨avs, cs, news, pv2, S⟩ := srcS_ok hr.ents hsrc ho2 hmd2
              obtain ⟨d, h4, h5⟩ := (hL.at ht).desc
              obtain ⟨i, de, rfl, i2, i3, i4, i5⟩ := td_slice h5
              obtain ⟨i', g1, g2, g3, g4⟩ := (hL.at he).info
              have : i' = i := Option.some.inj (g1.symm.trans i2)
              subst this
              have hdis := nodupB_app hnd
              have hks := ltAll_spec hlt
              have hsz : i'.size = wid c := i3.trans hes'
              have hrows := B.src.rows.cat S.rows (fun a j ρ m c0 l0 e1 e2 e3 => B.src.own a j ρ m c0 l0 e1 e2 (by subst e3; simp)) (fun a j ρ m c0 l0 e1 e2 e3 => S.own a j ρ m c0 l0 e1 e2 (by subst e3; simp)) hdis
              have big : xs.length + ys.length ≤ maxLen := by
                have := Nat.le_mul_of_pos_right (xs.length + ys.length) hby'
                simp only [maxLen]; omega
              have hpl : pre.length = xs.length * i'.size := by rw [hsz]; exact B.src.rows.len
              have hnl : news.length = ys.length * i'.size := by rw [hsz]; exact S.rows.len
              obtain ⟨L, w', r1, r2, r3⟩ := r_append (P := x.P) w (t := T) (ty := ty) h4 i2 g3 (by rw [cells_zero (hL.at he)]; simp [← g2]) (cs := cs) hpl B.src.read B.src.none hnl S.read S.none S.rows.one
                (by
                  rcases B.blk with h | ⟨kb, a0, cs0, t0, q1, q2, q3, q4, q5, _⟩
                  · exact .inl h
                  · exact .inr ⟨a0, cs0, t0, q2, q3, q4, by rw [hsz]; exact q5⟩) B.le B.cm big (by rw [g4]; exact hroom)
              have run : (execOp act.eval ⟨some t, .call ⟨.builtin .append, #[a, b], #[T, T]⟩, ty, pos, after, gd⟩).run x.P w = .ok (.value L.hd) w' := by
                simp only [execOp, resolve, invoke, builtin, Sem.run_bind, Sem.run_pure, Result.andThen_ok, List.map_toArray, List.map_cons, List.map_nil, hr.env.get ha, hr.env.get hb, B.src.den, S.den, r1]
              unfold Oper.wp
              rw [run]
              have hmd : mdOf (orB b1' b2') = .own ∨ mdOf (orB b1' b2') = .sh := by cases orB b1' b2' <;> simp [mdOf]
              have key : ∀ (rs' : Option Nat), (rs' = none ∨ rs' = rs) → L.len = (xs ++ ys).length → (xs ++ ys).length ≤ L.cap → OwnAt w' L (wid c) → (∀ j u, (pre ++ news)[j]? = some u → ∃ a, L.a = some a ∧ a.spot = none ∧ w'.cell? ⟨a.block, a.off + j, none⟩ = some u) →
                  (L.cap ≠ 0 → match rs' with | none => w.heap.size ≤ L.b | some kb => kb ∈ app k1 k2 ∧ ∃ b0, cont s.mem ⟨kb, []⟩ = some b0 ∧ liveB (V ⟨kb, []⟩) b0 ∧ kindB b0 = .own ∧ L.b = (V ⟨kb, []⟩).b) → w.heap.size ≤ w'.heap.size →
                  (∀ b, b < w.heap.size → (∀ kb, rs' = some kb → L.cap ≠ 0 → b ≠ (V ⟨kb, []⟩).b) → w'.heap[b]? = w.heap[b]?) → SIO w w' → ∃ V', Rep x g V' ⟨(t, .sl ⟨s.nb, []⟩) :: s.env, (s.nb, .list (mdOf (orB b1' b2')) c (xs ++ ys)) :: killL (app k1 k2) s.mem, s.nb + 1⟩ (act.put (some t) L.hd) w' := by
                intro rs' hrs' p1 p2 p3 p4 p5 p6 p7 p8
                have hrows' : RowsP s.mem V (mdOf (orB b1' b2')) (app k1 k2) c (xs ++ ys) (pre ++ news) (pvC xs.length pv1 pv2) := by rw [app_eq]; exact hrows
                have hlist := hr.list hmd hrows' hks p1 p2 p3 p4 rs' p5 (fun kb hkb => by
                    rcases hrs' with rfl | rfl
                    · cases hkb
                    · rw [app_eq]; exact List.mem_append_left _ (B.rk kb hkb).1) (fun a' j ρ kb e1 e2 e3 => by
                    rcases hrs' with rfl | rfl
                    · cases e2
                    · unfold pvC at e1
                      split at e1
                      · exact B.rp a' j ρ kb e1 e2 e3
                      · obtain ⟨m, c0, l0, hf⟩ := S.is _ j ρ e1
                        obtain ⟨q1, q2⟩ := B.rk kb e2
                        have hne := q2 m c0 l0 (by rw [← e3]; exact hf)
                        rcases S.own2 _ j ρ m c0 l0 e1 hf hne with h | h
                        · exact absurd (by rw [← e3]; exact h) (hdis kb q1)
                        · exact h) p6 p7 p8
                have hv : den (V.ext s.nb (nlF V (pvC xs.length pv1 pv2) L)) (.sl ⟨s.nb, []⟩) = L.hd := by
                  simp only [den, Vl.ext_new, nlF]
                have := hlist.put (t := t) (v := .sl ⟨s.nb, []⟩) h1 (by simp [okV, Nat.blt_eq])
                rw [hv] at this
                exact ⟨_, this⟩
              have hcap0 : (xs ++ ys).length = xs.length + ys.length := List.length_append
              rcases r2 with ⟨hL', hn', hw', hc'⟩ | ⟨a0, cs0, t0, hL', ha0, hs0, hh0, hf0, hc', h0', hw'⟩ | ⟨rest, hL', hl', hc', hr', hw', hcb⟩
              · subst hL'
                subst hw'
                have hpn : pre ++ news = pre := by rw [hn', List.append_nil]
                refine key rs (.inr rfl) (by rw [hcap0]) (by rw [hcap0]; exact hc') ?_ (fun j u hu => ?_) (fun hne => ?_) (Nat.le_refl _) (fun b hb _ => rfl) (SIO.refl _)
                · rcases B.blk with h | ⟨kb, a0, cs0, t0, q1, q2, q3, q4, q5, _⟩
                  · exact .inl h
                  · exact .inr ⟨a0, cs0, t0, q2, q3, q4, q5, r3⟩
                · rw [hpn] at hu
                  have hpos : 0 < pre.length := by have := (List.getElem?_eq_some_iff.1 hu).1; omega
                  have : 0 < xs.length := Nat.pos_of_ne_zero fun e => by rw [hpl, e, Nat.zero_mul] at hpos; omega
                  rcases B.blk with h | ⟨kb, ⟨b0, o0, s0⟩, cs0, t0, q1, q2, q3, q4, q5, _⟩
                  · have := B.le; omega
                  · obtain ⟨ad, e1, e2⟩ := B.src.read j u hu
                    rw [q2] at e1
                    cases e1
                    simp only at q3
                    subst q3
                    rw [Addr.add_mid] at e2
                    exact ⟨_, q2, rfl, e2⟩
                · rcases B.blk with h | ⟨kb, a0, cs0, t0, q1, q2, q3, q4, q5, q6, q7⟩
                  · exact absurd h hne
                  · subst q1
                    obtain ⟨b0, z1, z2, z3⟩ := q7
                    refine ⟨by rw [app_eq]; exact List.mem_append_left _ (B.rk kb rfl).1, b0, z1, z2, z3, ?_⟩
                    rw [q6]; unfold Loc.b; simp only [q2]
              · subst hL'
                rw [hsz] at hf0 hw'
                subst hw'
                rcases B.blk with h | ⟨kb, a1, cs1, t1, q1, q2, q3, q4, q5, q6, q7⟩
                · omega
                · rw [ha0] at q2
                  cases q2
                  rw [hh0] at q4
                  cases q4
                  obtain ⟨b0, z1, z2, z3⟩ := q7
                  have hfit : a0.off + xs.length * wid c + news.length ≤ cs0.size := by
                    have : (xs.length + ys.length) * wid c ≤ cb * wid c := Nat.mul_le_mul_right _ hc'
                    rw [Nat.add_mul] at this
                    rw [hnl, hsz]; omega
                  have hh := setRow_heap w a0.block cs0 (cs0.toList.take (a0.off + xs.length * wid c) ++ news ++ cs0.toList.drop (a0.off + xs.length * wid c + news.length)).toArray t0 (0, 0) hh0
                  refine key rs (.inr rfl) (by rw [hcap0]) (by rw [hcap0]; exact hc') (.inr ⟨a0, _, t0, ha0, hs0, hh, ?_, r3⟩) (fun j u hu => ⟨a0, ha0, hs0, cell_of hh ?_⟩) (fun _ => ?_) (by rw [setRow_size]; exact Nat.le_refl _) (fun b hb hne => setRow_other w a0.block b _ fun e => hne kb q1 (show cb ≠ 0 by omega) (by rw [q6, e])) ⟨rfl, rfl, rfl⟩
                  · simp only [List.size_toArray, List.length_append, List.length_take, List.length_drop, Array.length_toList]; omega
                  · simp only [List.getElem?_toArray]
                    by_cases hj : j < pre.length
                    · rw [List.getElem?_append_left hj] at hu
                      rw [List.append_assoc, List.getElem?_append_left (by simp; rw [hpl, hsz] at hj; omega), List.getElem?_take, if_pos (by rw [hpl, hsz] at hj; omega)]
                      obtain ⟨ad, e1, e2⟩ := B.src.read j u hu
                      rw [ha0] at e1
                      cases e1
                      obtain ⟨b1, o1, s1⟩ := a0
                      simp only at hs0
                      subst hs0
                      rw [Addr.add_mid] at e2
                      simp only [World.cell?, hh0, Option.isSome_none, Bool.false_eq_true, if_false] at e2
                      simpa using e2
                    · rw [List.getElem?_append_right (by omega)] at hu
                      have hjl := (List.getElem?_eq_some_iff.1 hu).1
                      rw [hpl, hsz] at hj hu hjl
                      rw [List.append_assoc, List.getElem?_append_right (by simp; omega), List.getElem?_append_left (by simp; omega), ← hu]
                      congr 1
                      simp; omega
                  · subst q1
                    refine ⟨by rw [app_eq]; exact List.mem_append_left _ (B.rk kb rfl).1, b0, z1, z2, z3, ?_⟩
                    rw [q6]; unfold Loc.b; simp only [ha0]
              · subst hw'
                have hh := heap_alloc_new w.drew (.cells (pre ++ news ++ rest).toArray e)
                have hpn : (pre ++ news).length = (xs.length + ys.length) * wid c := by rw [List.length_append, hpl, hnl, hsz, Nat.add_mul]
                refine key none (.inl rfl) (by rw [hcap0]; exact hl') (by rw [hcap0]; exact hc') (.inr ⟨_, _, e, hL', rfl, hh, ?_, r3⟩) (fun j u hu => ⟨_, hL', rfl, cell_of hh ?_⟩) (fun _ => ?_) (by rw [alloc_size]; exact Nat.le_succ _) (fun b hb _ => alloc_old w.drew _ hb) ⟨rfl, rfl, rfl⟩
                · simp only [List.size_toArray, List.length_append, hpn, hr', hsz, Nat.zero_add]
                  have : L.cap * wid c = (xs.length + ys.length) * wid c + (L.cap - (xs.length + ys.length)) * wid c := by rw [← Nat.add_mul]; congr 1; omega
                  simp only [List.length_append] at hpn
                  omega
                · simp only [List.getElem?_toArray, Nat.zero_add]
                  rw [List.getElem?_append_left (List.getElem?_eq_some_iff.1 hu).1]
                  exact hu
                · show w.heap.size ≤ L.b
                  unfold Loc.b; rw [hL']; exact Nat.le_refl _
            · cases h
          · cases h
        · cases h
      · cases h
    · cases h⟩
end
end Go.Proofs.Ytkageldgmkajbaa
namespace Go.Proofs.Ytkageldgmkajbaa
open Go.RowKit
def zvs : List TC → Option (List SV)
  | [] => some []
  | .int k n :: l => match zvs l with | some r => some (.int k n :: r) | none => none
  | .bool b :: l => match zvs l with | some r => some (.tf b :: r) | none => none
  | .str s :: l => match zvs l with | some r => some (.str s :: r) | none => none
  | .sl _ [] :: l => match zvs l with | some r => some (.val (.slice none 0 0) :: r) | none => none
  | .sl _ (_ :: _) :: _ => none
abbrev ZvOk (V : Vl) (l : List TC) (r : List SV) : Prop := r.length = l.length ∧ ∀ (j : Nat) (t : TC), l[j]? = some t → (denL V r)[j]? = some (denP V (fun _ _ => none) 0 0 t) ∧ ∀ c l1, t = .sl c l1 → l1 = []
theorem zvs_step {V : Vl} {x : TC} {l : List TC} {v : SV} {r : List SV} (h : ZvOk V l r) (hv : den V v = denP V (fun _ _ => none) 0 0 x) (hn : ∀ c l1, x = .sl c l1 → l1 = []) : ZvOk V (x :: l) (v :: r) := by
  refine ⟨by simp [h.1], fun j t hj => ?_⟩
  cases j with
  | zero =>
    simp only [List.getElem?_cons_zero, Option.some.injEq] at hj
    subst hj
    exact ⟨by simp only [denL, List.getElem?_cons_zero, hv], hn⟩
  | succ j => simp only [List.getElem?_cons_succ] at hj; simp only [denL, List.getElem?_cons_succ]; exact h.2 j t hj
theorem zvs_get {V : Vl} : ∀ {l : List TC} {r : List SV}, zvs l = some r → ZvOk V l r
  | [], r, h => by simp only [zvs, Option.some.injEq] at h; subst h; exact ⟨rfl, fun j t h => by simp at h⟩
  | .int k n :: l, r, h => by
    simp only [zvs] at h
    split at h
    · rename_i r0 hr; cases h; exact zvs_step (zvs_get hr) rfl (fun c l1 e => by cases e)
    · cases h
  | .bool b :: l, r, h => by
    simp only [zvs] at h
    split at h
    · rename_i r0 hr; cases h; exact zvs_step (zvs_get hr) rfl (fun c l1 e => by cases e)
    · cases h
  | .str b :: l, r, h => by
    simp only [zvs] at h
    split at h
    · rename_i r0 hr; cases h; exact zvs_step (zvs_get hr) rfl (fun c l1 e => by cases e)
    · cases h
  | .sl c [] :: l, r, h => by
    simp only [zvs] at h
    split at h
    · rename_i r0 hr; cases h; exact zvs_step (zvs_get hr) rfl (fun c l1 e => by cases e; rfl)
    · cases h
  | .sl c (_ :: _) :: l, r, h => by simp [zvs] at h
def mkS (L : Lay) (T : TypeId) (p q : SV) : Option (MB × List Prop) := match find L T, p, q with
  | some ⟨_, .slice e es _, _, _⟩, .int _ l, .int _ k => match find L e with
    | some ⟨zs, _, by_, some c⟩ => match Nat.beq es (wid c), zvs (tcells c (dflt c)) with
      | true, some zs' => some (.list .own c (List.replicate l.toNat (dflt c)), [zs = zs', 0 ≤ l, l ≤ k, (by_ : Int) * k ≤ 281474976710656, k ≤ 9223372036854775807])
      | _, _ => none
    | _ => none
  | _, _, _ => none
section
variable {x : Cx} {s : St} (hL : LayOk x.P x.L)
include hL
theorem step_make {a b : Operand} {T : TypeId} {t : Nat} {ty : TypeId} {pos : String} {after : Array Edge} {gd : Option (Nat × Bool)} {p q : SV} {m : MB} {obs : List Prop} (ha : s.get a = some p) (hb : s.get b = some q) (h : mkS x.L T p q = some (m, obs)) (ho : AllP obs) (h1 : Nat.blt t x.n = true) :
    StepTo x s ⟨some t, .makeSlice T a b, ty, pos, after, gd⟩ ⟨(t, .sl ⟨s.nb, []⟩) :: s.env, (s.nb, m) :: s.mem, s.nb + 1⟩ :=
  ⟨fun g V act w Q hr => by
    unfold mkS at h
    split at h
    · rename_i zs0 e es ea b1 cd k1 l k2 k ht
      split at h
      · rename_i zs td by_ c he
        split at h
        · rename_i zs' hes hz
          simp only [Option.some.injEq, Prod.mk.injEq] at h
          obtain ⟨rfl, rfl⟩ := h
          obtain ⟨o1, o2, o3, o4, o5, _⟩ := ho
          subst o1
          obtain ⟨d, h4, h5⟩ := (hL.at ht).desc
          obtain ⟨i, de, rfl, i2, i3, i4, i5⟩ := td_slice h5
          have hti := hL.at he
          obtain ⟨i', g1, g2, g3, g4⟩ := hti.info
          have : i' = i := Option.some.inj (g1.symm.trans i2)
          subst this
          have hes' := Nat.eq_of_beq_eq_true hes
          have hsz : i'.size = wid c := i3.trans hes'
          have run0 := run_make (P := x.P) w T e i' _ h4 i2 g3 k1 k2 l k o2 o3 (by rw [g4]; exact o4) o5
          rw [cells_zero hti] at run0
          have run : (execOp act.eval ⟨some t, .makeSlice T a b, ty, pos, after, gd⟩).run x.P w = .ok (.value (.slice (some ⟨w.heap.size, 0, none⟩) l.toNat k.toNat)) (w.alloc (.cells (madeCells (TI.zero ⟨zs, td, by_, some c⟩).toArray (k.toNat * i'.size)) e)) := by
            simp only [execOp, hr.env.get ha, hr.env.get hb, den, Sem.run_bind, run0, Result.andThen_ok, Sem.run_pure]
          unfold Oper.wp
          rw [run]
          have zlen : (TI.zero ⟨zs, td, by_, some c⟩).length = wid c := by rw [← g2]; exact hsz
          obtain ⟨z1, z2⟩ := zvs_get (V := V) hz
          have zeq : TI.zero ⟨zs, td, by_, some c⟩ = denL V zs := (hti.zs V).symm
          have hwp := wid_pos c
          have mc : ∀ j, j < k.toNat * wid c → (madeCells (TI.zero ⟨zs, td, by_, some c⟩).toArray (k.toNat * i'.size))[j]? = (denL V zs)[j % wid c]? := by
            intro j hj
            have hjl : j < k.toNat * i'.size := by rw [hsz]; exact hj
            simp only [madeCells, Array.getElem?_map, Array.getElem?_range, if_pos hjl, Option.map_some]
            have hm : j % wid c < wid c := Nat.mod_lt _ hwp
            simp only [List.size_toArray, zlen]
            rw [zeq]
            have hlen : j % wid c < (denL V zs).length := by rw [← zeq, zlen]; exact hm
            rw [List.getElem?_eq_getElem hlen]
            simp [hlen]
          let L : Loc := ⟨some ⟨w.heap.size, 0, none⟩, l.toNat, k.toNat⟩
          let vals := (List.range (l.toNat * wid c)).map fun j => (denL V zs).getD (j % wid c) Go.undef
          have hR : RowsP s.mem V .own [] c (List.replicate l.toNat (dflt c)) vals (fun _ _ => none) := by
            refine ⟨by simp [vals], fun a x hx j t hj => ?_, fun a x hx j c1 l1 hj => .inl ⟨rfl, ?_⟩, fun a j a' j' ρ ρ' q q' c0 l0 h => by cases h⟩
            · have hjw : j < wid c := by have := (List.getElem?_eq_some_iff.1 hj).1; rw [tcells_len] at this; exact this
              rw [List.getElem?_replicate] at hx
              split at hx
              · rename_i hal
                cases hx
                have hlt : a * wid c + j < l.toNat * wid c := by
                  have : (a + 1) * wid c ≤ l.toNat * wid c := Nat.mul_le_mul_right _ hal
                  rw [Nat.succ_mul] at this; omega
                simp only [vals, List.getElem?_map, List.getElem?_range hlt, Option.map_some]
                have hm : (a * wid c + j) % wid c = j := by rw [Nat.mul_comm, Nat.mul_add_mod, Nat.mod_eq_of_lt hjw]
                rw [hm, List.getD_eq_getElem?_getD, (z2 j t hj).1]
                rfl
              · cases hx
            · rw [List.getElem?_replicate] at hx
              split at hx
              · cases hx; exact (z2 j _ hj).2 c1 l1 rfl
              · cases hx
          have hh := heap_alloc_new w (.cells (madeCells (TI.zero ⟨zs, td, by_, some c⟩).toArray (k.toNat * i'.size)) e)
          have hlk : l.toNat ≤ k.toNat := by omega
          have hlist := hr.list (md := .own) (.inl rfl) hR (by simp) (L := L) (by simp [L]) (by rw [List.length_replicate]; exact hlk) (w' := w.alloc (.cells (madeCells (TI.zero ⟨zs, td, by_, some c⟩).toArray (k.toNat * i'.size)) e))
            (.inr ⟨_, _, e, rfl, rfl, hh, by simp [L, size_madeCells, hsz], by simp only [L, maxLen]; omega⟩) (fun j u hu => ⟨_, rfl, rfl, cell_of hh (by
              have hj : j < l.toNat * wid c := by have := (List.getElem?_eq_some_iff.1 hu).1; simpa [vals] using this
              have hjk : j < k.toNat * wid c := Nat.lt_of_lt_of_le hj (Nat.mul_le_mul_right _ hlk)
              rw [Nat.zero_add, mc j hjk]
              simp only [vals, List.getElem?_map, List.getElem?_range hj, Option.map_some, Option.some.injEq] at hu
              have hlen : j % wid c < (denL V zs).length := by rw [← zeq, zlen]; exact Nat.mod_lt _ hwp
              rw [List.getElem?_eq_getElem hlen, ← hu, List.getD_eq_getElem?_getD, List.getElem?_eq_getElem hlen]
              rfl)⟩) none (fun _ => Nat.le_refl _) (fun kb h => by cases h) (fun a j ρ kb h => by cases h) (by rw [alloc_size]; exact Nat.le_succ _) (fun b hb _ => alloc_old w _ hb) ⟨rfl, rfl, rfl⟩
          have := hlist.put (t := t) (v := .sl ⟨s.nb, []⟩) h1 (by simp [okV, Nat.blt_eq])
          have hv : den (V.ext s.nb (nlF V (fun _ _ => none) L)) (.sl ⟨s.nb, []⟩) = L.hd := by simp only [den, Vl.ext_new, nlF]
          rw [hv] at this
          exact ⟨_, this⟩
        · cases h
      · cases h
    · cases h⟩
end
universe u
def nx {β : Type u} (n : Nat) (f : Nat → β) : β := match n with
  | 0 => f 1 | 1 => f 2 | 2 => f 3 | 3 => f 4 | 4 => f 5 | 5 => f 6 | 6 => f 7 | 7 => f 8 | 8 => f 9 | 9 => f 10 | 10 => f 11 | 11 => f 12 | 12 => f 13 | 13 => f 14 | 14 => f 15 | 15 => f 16
  | 16 => f 17 | 17 => f 18 | 18 => f 19 | 19 => f 20 | 20 => f 21 | 21 => f 22 | 22 => f 23 | 23 => f 24 | 24 => f 25 | 25 => f 26 | 26 => f 27 | 27 => f 28 | 28 => f 29 | 29 => f 30
  | n => f (n + 1)
theorem nx_eq {β : Type u} (n : Nat) (f : Nat → β) : nx n f = f (n + 1) := by unfold nx; split <;> rfl
abbrev StepR := Option (St × List Prop)
def newO (x : Cx) (s : St) (t : Nat) (op : Op) : StepR := match newS x.L s op with
  | some (c, sh) => plL c fun c => match okL s.nb c with
    | true => match s with
      | ⟨env, mem, nb⟩ => nx nb fun nb' => some (⟨(t, svSh nb sh) :: env, (nb, .cells c) :: mem, nb'⟩, [])
    | false => none
  | none => none
def evO (x : Cx) (s : St) (t : Nat) (op : Op) : StepR := match ev x.L s op with
  | some (v, obs) => plV v fun v => match okV s.nb v with
    | true => match s with
      | ⟨env, mem, nb⟩ => some (⟨(t, v) :: env, mem, nb⟩, obs)
    | false => none
  | none => none
def plK {β : Type u} : List Nat → (List Nat → β) → β
  | [], f => f []
  | k :: l, f => plK l fun l => f (k :: l)
theorem plK_eq {β : Type u} : ∀ (l : List Nat) (f : List Nat → β), plK l f = f l
  | [], f => rfl
  | k :: l, f => by simp only [plK, plK_eq l]
def plM {β : Type u} : List (Nat × MB) → (List (Nat × MB) → β) → β
  | [], f => f []
  | (k, m) :: l, f => plM l fun l => f ((k, m) :: l)
theorem plM_eq {β : Type u} : ∀ (l : List (Nat × MB)) (f : List (Nat × MB) → β), plM l f = f l
  | [], f => rfl
  | (k, m) :: l, f => by simp only [plM, plM_eq l]
def plMB {β : Type u} : MB → (MB → β) → β
  | .cells c, f => plL c fun c => f (.cells c)
  | .list m c l, f => f (.list m c l)
  | .hole b c l, f => f (.hole b c l)
  | .deck v, f => plV v fun v => f (.deck v)
  | .mp es, f => f (.mp es)
  | .dead, f => f .dead
theorem plMB_eq {β : Type u} (m : MB) (f : MB → β) : plMB m f = f m := by cases m <;> simp only [plMB, plL_eq, plV_eq]
def appO (x : Cx) (s : St) (t : Nat) (args : List Operand) (ts : List TypeId) : StepR := match args, ts with
  | [a, b], [T, T'] => match Nat.beq T T', s.get a, s.get b with
    | true, some p, some q => match appS x.L s T p q with
      | some (m, ks, obs) => match m with
        | .list md c l => plK ks fun ks => match s with
          | ⟨env, mem, nb⟩ => nx nb fun nb' => some (⟨(t, .sl ⟨nb, []⟩) :: env, (nb, .list md c l) :: killL ks mem, nb'⟩, obs)
        | _ => none
      | none => none
    | _, _, _ => none
  | _, _ => none
def mkO (x : Cx) (s : St) (t : Nat) (T : TypeId) (a b : Operand) : StepR := match s.get a, s.get b with
  | some p, some q => match mkS x.L T p q with
    | some (m, obs) => match m with
      | .list md c l => match s with
        | ⟨env, mem, nb⟩ => nx nb fun nb' => some (⟨(t, .sl ⟨nb, []⟩) :: env, (nb, .list md c l) :: mem, nb'⟩, obs)
      | _ => none
    | none => none
  | _, _ => none
def storeO (x : Cx) (s : St) (T : TypeId) (p y : Operand) : StepR := match s.get p, s.get y, find x.L T with
  | some (.ptr k o), some u, some ti => match find s.mem k, cellsO u with
    | some (.cells c), some vs => match Nat.beq vs.length ti.zs.length, oneL vs, okL s.nb vs, splice c o vs with
      | true, true, true, some c' => plL c' fun c' => match s with
        | ⟨env, mem, nb⟩ => some (⟨env, (k, .cells c') :: mem, nb⟩, [])
      | _, _, _, _ => none
    | _, _ => none
  | some (.el ⟨k, pa⟩ es i f), some u, some ti => match find s.mem k, cellsO u with
    | some (.list m c l), some vs => match scalL vs, Nat.beq vs.length ti.zs.length, (m.at pa).own? with
      | some ts, true, true => match updD c l pa i f ts with
        | some (l', n, obs) => match Nat.beq es n, s with
          | true, ⟨env, mem, nb⟩ => some (⟨env, (k, .list m c l') :: mem, nb⟩, obs)
          | false, _ => none
        | none => none
      | _, _, _ => none
    | _, _ => none
  | _, _, _ => none
theorem contB_mp {d : MpD} {q : Path} {b' : AB} (h : contB (.mp d) q = some b') : q = [] ∧ b' = .mp d := by
  cases q with
  | nil => simp only [contB, Option.some.injEq] at h; exact ⟨rfl, h.symm⟩
  | cons _ _ => simp [contB] at h
theorem Rep.mpTo {x : Cx} {g : Gx} {V : Vl} {s : St} {a : Act} {w : World} (hr : Rep x g V s a w) {k b : Nat} {d d' : MpD} (hm : find s.mem k = some (.mp d)) (hb0 : (V ⟨k, []⟩).a = some ⟨b, 0, none⟩) {arr arr' : Array MapEntry} {cl cl' : Nat} (hb : w.heap[b]? = some (.map arr cl)) (he : mpE d' arr' cl') :
    Rep x g V ⟨s.env, (k, .mp d') :: s.mem, s.nb⟩ a { w with heap := w.heap.setIfInBounds b (.map arr' cl') } := by
  have hc : cont s.mem ⟨k, []⟩ = some (.mp d) := cont_iff.2 ⟨_, hm, rfl⟩
  obtain ⟨hlt, _⟩ := hr.ents.ok k _ hm
  have hbl : (V ⟨k, []⟩).b = b := by unfold Loc.b; rw [hb0]
  have other : ∀ j, j ≠ b → ({ w with heap := w.heap.setIfInBounds b (.map arr' cl') } : World).heap[j]? = w.heap[j]? := fun j hj => by simp [Ne.symm hj]
  have self : ({ w with heap := w.heap.setIfInBounds b (.map arr' cl') } : World).heap[b]? = some (.map arr' cl') := by
    have := lt_of_heap hb
    simp [this]
  have hq : ∀ q b', contB (.mp d') q = some b' → ∃ b0, cont s.mem ⟨k, q⟩ = some b0 ∧ kindB b0 = kindB b' ∧ (liveB (V ⟨k, q⟩) b' → liveB (V ⟨k, q⟩) b0) := by
    intro q b' h
    obtain ⟨rfl, rfl⟩ := contB_mp h
    exact ⟨_, hc, rfl, fun _ => trivial⟩
  have hE := hr.ents.upd (w' := { w with heap := w.heap.setIfInBounds b (.map arr' cl') }) (m' := .mp d') (b := b) s.env hlt rfl hq (fun r c1 hc1 hl hne => other _ fun he => hne (by rw [← hr.ents.sep ⟨k, []⟩ r _ c1 hc hc1 trivial hl rfl (by rw [hbl, he])]))
    (fun q b' h => by
      obtain ⟨rfl, rfl⟩ := contB_mp h
      exact ⟨b, arr', cl', hb0, self, he⟩) hr.d0w
  exact hr.upd hE hq (by simp) (fun j _ hj => other j fun he => hj ⟨⟨k, []⟩, _, hc, trivial, rfl, by rw [hbl, he]⟩) ⟨rfl, rfl, rfl⟩
theorem Rep.newMp {x : Cx} {g : Gx} {V : Vl} {s : St} {a : Act} {w : World} (h : Rep x g V s a w) (bl : Bool) :
    Rep x g (V.ext s.nb fun _ => ⟨some ⟨w.heap.size, 0, none⟩, 0, 0⟩) ⟨s.env, (s.nb, .mp ⟨bl, []⟩) :: s.mem, s.nb + 1⟩ a (w.alloc (.map #[] 0)) := by
  have ag : AgrB s.nb (V.ext s.nb fun _ => ⟨some ⟨w.heap.size, 0, none⟩, 0, 0⟩) V := Vl.ext_agr
  have same : ∀ b, b < w.heap.size → (w.alloc (.map #[] 0)).heap[b]? = w.heap[b]? := fun b hb => alloc_old w _ hb
  have hE := h.ents.turn (w' := w.alloc (.map #[] 0)) (V' := V.ext s.nb fun _ => ⟨some ⟨w.heap.size, 0, none⟩, 0, 0⟩) (m := .mp ⟨bl, []⟩) (ks := []) s.env ag rfl (by simp) (fun _ => none) (fun r b hb hl _ => same _ (h.ents.lt hb hl))
    (fun p b' hb hl => .inl ⟨rfl, by rw [Vl.ext_new]; exact Nat.le_refl _⟩) (fun p1 p2 b1 b2 h1 h2 _ _ _ _ => (contB_mp h1).1.trans (contB_mp h2).1.symm)
    (fun p b' hb => by
      obtain ⟨rfl, rfl⟩ := contB_mp hb
      exact ⟨w.heap.size, #[], 0, by rw [Vl.ext_new], heap_alloc_new w _, rfl, List.nodup_nil, fun e he => absurd he (by simp), List.nodup_nil⟩) h.d0w
  exact h.turn (ks := []) (by rw [alloc_size]; omega) ag (by simp) hE ⟨rfl, rfl, rfl⟩ (fun b hb _ => same b hb) (fun p b' hb _ _ => .inl (by rw [Vl.ext_new]; exact Nat.le_refl _))
def putV : Bool → SV → Option Int
  | true, .tf true => some 1
  | true, .tf false => some 0
  | true, .bool b => some (if b = true then 1 else 0)
  | false, .int .i64 n => some n
  | _, _ => none
theorem putV_den (V : Vl) {bl : Bool} {u : SV} {n : Int} (h : putV bl u = some n) : den V u = mpV bl n := by
  unfold putV at h
  split at h <;> first | (cases h; done) | (cases h; rfl) | skip
  rename_i b
  cases h
  cases b <;> rfl
def putO (x : Cx) (s : St) (T : TypeId) (m k y : Operand) : StepR := match s.get m, s.get k, s.get y, find x.L T with
  | some (.mp j), some (.int .i64 n), some u, some ⟨_, .map kt _, _, _⟩ => match find x.L kt, find s.mem j with
    | some ⟨_, .int .i64, _, _⟩, some (.mp ⟨bl, es⟩) => match putV bl u, s with
      | some v, ⟨env, mem, nb⟩ => some (⟨env, (j, .mp ⟨bl, mpSet es n v⟩) :: mem, nb⟩, [])
      | none, _ => none
    | _, _ => none
  | _, _, _, _ => none
def newMpO (x : Cx) (s : St) (t : Nat) (T : TypeId) (r : Option Operand) : StepR := match r, find x.L T, s with
  | none, some ⟨_, .map _ e, _, _⟩, ⟨env, mem, nb⟩ => match find x.L e with
    | some ⟨_, .bool, _, _⟩ => nx nb fun nb' => some (⟨(t, .mp nb) :: env, (nb, .mp ⟨true, []⟩) :: mem, nb'⟩, [])
    | some ⟨_, .int .i64, _, _⟩ => nx nb fun nb' => some (⟨(t, .mp nb) :: env, (nb, .mp ⟨false, []⟩) :: mem, nb'⟩, [])
    | _ => none
  | _, _, _ => none
def delO (x : Cx) (s : St) (args : List Operand) (ts : List TypeId) : StepR := match args, ts with
  | [m, k], T :: _ => match s.get m, s.get k, find x.L T with
    | some (.mp j), some (.int .i64 n), some ⟨_, .map kt _, _, _⟩ => match find x.L kt, find s.mem j, s with
      | some ⟨_, .int .i64, _, _⟩, some (.mp ⟨bl, es⟩), ⟨env, mem, nb⟩ => some (⟨env, (j, .mp ⟨bl, mpDel es n⟩) :: mem, nb⟩, [])
      | _, _, _ => none
    | _, _, _ => none
  | _, _ => none
section
variable {x : Cx} {s : St} (hL : LayOk x.P x.L)
theorem newMp_ok {t : Nat} {T : TypeId} {r : Option Operand} {ty : TypeId} {pos : String} {after : Array Edge} {gd : Option (Nat × Bool)} {s' : St} {obs : List Prop} (h : newMpO x s t T r = some (s', obs)) (h1 : Nat.blt t x.n = true) : StepTo x s ⟨some t, .makeMap T r, ty, pos, after, gd⟩ s' := by
  have core : ∀ bl, StepTo x s ⟨some t, .makeMap T none, ty, pos, after, gd⟩ ⟨(t, .mp s.nb) :: s.env, (s.nb, .mp ⟨bl, []⟩) :: s.mem, s.nb + 1⟩ := fun bl => ⟨fun g V a w Q hr => by
    unfold Oper.wp
    have run : (execOp a.eval ⟨some t, .makeMap T none, ty, pos, after, gd⟩).run x.P w = .ok (.value (.map (some w.heap.size))) (w.alloc (.map #[] 0)) := rfl
    rw [run]
    have hp := (hr.newMp bl).put (t := t) (v := .mp s.nb) h1 (by simp [okV, Nat.blt_eq])
    have hd : den (V.ext s.nb fun _ => ⟨some ⟨w.heap.size, 0, none⟩, 0, 0⟩) (.mp s.nb) = .map (some w.heap.size) := by simp only [den, Vl.ext_new]; rfl
    rw [hd] at hp
    exact ⟨_, hp⟩⟩
  unfold newMpO at h
  split at h
  · split at h
    · simp only [nx_eq, Option.some.injEq, Prod.mk.injEq] at h
      obtain ⟨rfl, rfl⟩ := h
      exact core true
    · simp only [nx_eq, Option.some.injEq, Prod.mk.injEq] at h
      obtain ⟨rfl, rfl⟩ := h
      exact core false
    · cases h
  · cases h
include hL
theorem put_ok {T : TypeId} {m k y : Operand} {ty : TypeId} {pos : String} {after : Array Edge} {gd : Option (Nat × Bool)} {s' : St} {obs : List Prop} (h : putO x s T m k y = some (s', obs)) : StepTo x s ⟨none, .mapUpdate T m k y, ty, pos, after, gd⟩ s' := by
  unfold putO at h
  split at h
  · rename_i j n u z1 kt e b1 c1 hm hk hy hT
    split at h
    · rename_i z2 b2 c2 bl es hK hmem
      split at h
      · rename_i v env mem nb hv
        simp only [Option.some.injEq, Prod.mk.injEq] at h
        obtain ⟨rfl, rfl⟩ := h
        refine ⟨fun g V a w Q hr => ?_⟩
        obtain ⟨b, arr, cl, h1, h2, h3⟩ := hr.ents.at_ ⟨j, []⟩ (.mp ⟨bl, es⟩) (cont_iff.2 ⟨_, hmem, rfl⟩)
        obtain ⟨d1, g1, g2⟩ := (hL.at hT).desc
        obtain ⟨d2, g3, g4⟩ := (hL.at hK).desc
        rw [td_map g2] at g1
        rw [td_int g4] at g3
        obtain ⟨arr', cl', run, he⟩ := mp_put (w := w) (z := n) (u := v) g1 g3 h2 h3
        have hb : den V (.mp j) = .map (some b) := by simp only [den, h1]; rfl
        unfold Oper.wp
        have : (execOp a.eval ⟨none, .mapUpdate T m k y, ty, pos, after, gd⟩).run x.P w = .ok .skip { w with heap := w.heap.setIfInBounds b (.map arr' cl') } := by
          simp only [execOp, hr.env.get hm, hr.env.get hk, hr.env.get hy, hb, putV_den V hv]
          simp only [den, Sem.run_bind, run, Result.andThen_ok, Sem.run_pure]
        rw [this]
        exact ⟨V, hr.mpTo hmem h1 h2 he⟩
      · cases h
    · cases h
  · cases h
theorem del_ok {args : Array Operand} {ts : Array TypeId} {ty : TypeId} {pos : String} {after : Array Edge} {gd : Option (Nat × Bool)} {s' : St} {obs : List Prop} (h : delO x s args.toList ts.toList = some (s', obs)) : StepTo x s ⟨none, .call ⟨.builtin .delete, args, ts⟩, ty, pos, after, gd⟩ s' := by
  unfold delO at h
  split at h
  · rename_i m k T tl hargs hts
    split at h
    · rename_i j n z1 kt e b1 c1 hm hk hT
      split at h
      · rename_i z2 b2 c2 bl es env mem nb hK hmem
        simp only [Option.some.injEq, Prod.mk.injEq] at h
        obtain ⟨rfl, rfl⟩ := h
        refine ⟨fun g V a w Q hr => ?_⟩
        have e1 : args = #[m, k] := by apply Array.ext'; simpa using hargs
        have e2 : ts[0]? = some T := by rw [← Array.getElem?_toList, hts]; rfl
        subst e1
        obtain ⟨b, arr, cl, h1, h2, h3⟩ := hr.ents.at_ ⟨j, []⟩ (.mp ⟨bl, es⟩) (cont_iff.2 ⟨_, hmem, rfl⟩)
        obtain ⟨d1, g1, g2⟩ := (hL.at hT).desc
        obtain ⟨d2, g3, g4⟩ := (hL.at hK).desc
        rw [td_map g2] at g1
        rw [td_int g4] at g3
        obtain ⟨arr', cl', run, he⟩ := mp_del (w := w) (z := n) (ty := ty) e2 g1 g3 h2 h3
        have hb : den V (.mp j) = .map (some b) := by simp only [den, h1]; rfl
        unfold Oper.wp
        have : (execOp a.eval ⟨none, .call ⟨.builtin .delete, #[m, k], ts⟩, ty, pos, after, gd⟩).run x.P w = .ok (.value (.tuple #[])) { w with heap := w.heap.setIfInBounds b (.map arr' cl') } := by
          have hk2 : a.eval k = .int .i64 n := hr.env.get hk
          simp only [execOp, resolve, invoke, builtin, Sem.run_bind, Sem.run_pure, Result.andThen_ok, List.map_toArray, List.map_cons, List.map_nil, hr.env.get hm, hk2, hb, run]
        rw [this]
        exact ⟨V, hr.mpTo hmem h1 h2 he⟩
      · cases h
    · cases h
  · cases h
end
def stepO (x : Cx) (s : St) (o : Oper) : StepR := match o.dst with
  | some t => match Nat.blt t x.n with
    | true => match o.op with
      | .alloc T => newO x s t (.alloc T)
      | .box T y => newO x s t (.box T y)
      | .buildSlice T n ps => newO x s t (.buildSlice T n ps)
      | .makeSlice T a b => mkO x s t T a b
      | .makeMap T r => newMpO x s t T r
      | .call ⟨.builtin .append, args, ts⟩ => appO x s t args.toList ts.toList
      | op => evO x s t op
    | false => none
  | none => match o.op with
    | .store T p y => storeO x s T p y
    | .mapUpdate T m k y => putO x s T m k y
    | .call ⟨.builtin .delete, args, ts⟩ => delO x s args.toList ts.toList
    | _ => none
section
variable {x : Cx} {s : St} (hL : LayOk x.P x.L)
include hL
theorem newO_ok {t : Nat} {op : Op} {ty : TypeId} {pos : String} {after : Array Edge} {gd : Option (Nat × Bool)} {s' : St} {obs : List Prop} (h : newO x s t op = some (s', obs)) (h1 : Nat.blt t x.n = true) : StepTo x s ⟨some t, op, ty, pos, after, gd⟩ s' := by
  unfold newO at h
  split at h
  · rename_i c sh hn
    rw [plL_eq] at h
    split at h
    · rename_i hc
      obtain ⟨env, mem, nb⟩ := s
      simp only [nx_eq, Option.some.injEq, Prod.mk.injEq] at h
      obtain ⟨rfl, rfl⟩ := h
      exact step_new (newS_ok hL hn) h1 hc
    · cases h
  · cases h
theorem evO_ok {t : Nat} {op : Op} {ty : TypeId} {pos : String} {after : Array Edge} {gd : Option (Nat × Bool)} {s' : St} {obs : List Prop} (h : evO x s t op = some (s', obs)) (ho : AllP obs) (h1 : Nat.blt t x.n = true) : StepTo x s ⟨some t, op, ty, pos, after, gd⟩ s' := by
  unfold evO at h
  split at h
  · rename_i v obs' hv
    rw [plV_eq] at h
    split at h
    · rename_i hc
      obtain ⟨env, mem, nb⟩ := s
      simp only [Option.some.injEq, Prod.mk.injEq] at h
      obtain ⟨rfl, rfl⟩ := h
      exact step_ev (ev_ok hL hv ho) h1 hc
    · cases h
  · cases h
theorem stepO_ok {o : Oper} {s' : St} {obs : List Prop} (h : stepO x s o = some (s', obs)) (ho : AllP obs) : StepTo x s o s' := by
  obtain ⟨dst, op, ty, pos, after, gd⟩ := o
  unfold stepO at h
  split at h
  · rename_i t hd
    simp only at hd
    subst hd
    split at h
    · rename_i h1
      split at h
      · rename_i T hop; simp only at hop; subst hop; exact newO_ok hL h h1
      · rename_i T y hop; simp only at hop; subst hop; exact newO_ok hL h h1
      · rename_i T n ps hop; simp only at hop; subst hop; exact newO_ok hL h h1
      · rename_i T a b hop
        simp only at hop
        subst hop
        unfold mkO at h
        split at h
        · rename_i p q hp hq
          split at h
          · rename_i m obs' hm
            split at h
            · obtain ⟨env, mem, nb⟩ := s
              simp only [nx_eq, Option.some.injEq, Prod.mk.injEq] at h
              obtain ⟨rfl, rfl⟩ := h
              exact step_make hL hp hq hm ho h1
            · cases h
          · cases h
        · cases h
      · rename_i T r hop; simp only at hop; subst hop; exact newMp_ok h h1
      · rename_i args ts hop
        simp only at hop
        subst hop
        unfold appO at h
        split at h
        · rename_i a b T T' ha ht
          split at h
          · rename_i p q hT hp hq
            have := Nat.eq_of_beq_eq_true hT
            subst this
            split at h
            · rename_i m ks obs' hm
              split at h
              · rw [plK_eq] at h
                obtain ⟨env, mem, nb⟩ := s
                simp only [nx_eq, Option.some.injEq, Prod.mk.injEq] at h
                obtain ⟨rfl, rfl⟩ := h
                exact step_append hL ha ht hp hq hm ho h1
              · cases h
            · cases h
          · cases h
        · cases h
      · exact evO_ok hL h ho h1
    · cases h
  · rename_i hd
    simp only at hd
    subst hd
    split at h
    · rename_i T p y hop
      simp only at hop
      subst hop
      unfold storeO at h
      split at h
      · rename_i k o u ti hp hy ht
        split at h
        · rename_i c vs hm hvs
          split at h
          · rename_i c' h2 h3 h4 h5
            rw [plL_eq] at h
            obtain ⟨env, mem, nb⟩ := s
            simp only [Option.some.injEq, Prod.mk.injEq] at h
            obtain ⟨rfl, rfl⟩ := h
            exact step_store hL hp hy ht hm hvs h2 h3 h4 h5
          · cases h
        · cases h
      · rename_i k pa es i f u ti hp hy ht
        split at h
        · rename_i m c l vs hm hvs
          split at h
          · rename_i ts hts h2 hown
            split at h
            · rename_i l' n obs' hu
              split at h
              · rename_i env mem nb hes
                simp only [Option.some.injEq, Prod.mk.injEq] at h
                obtain ⟨rfl, rfl⟩ := h
                exact step_storeEl hL hp hy ht hm hvs hts h2 hown hu hes ho
              · cases h
            · cases h
          · cases h
        · cases h
      · cases h
    · rename_i T m k y hop; simp only at hop; subst hop; exact put_ok hL h
    · rename_i args ts hop; simp only at hop; subst hop; exact del_ok hL h
    · cases h
end
end Go.Proofs.Ytkageldgmkajbaa
namespace Go.Proofs.Ytkageldgmkajbaa
open Go.RowKit
def goes (ops : List Oper) (env : List (Nat × SV)) (g : Option (Nat × Bool)) : Option Bool :=
  match g with
  | none => some true
  | some (j, b) => match nthC ops j with
    | none => none
    | some o => match o.dst with
      | none => none
      | some t => match find env t with
        | some (.tf c) => match c, b with
          | true, true => some true
          | false, false => some true
          | true, false => some false
          | false, true => some false
        | some .undef => some false
        | _ => none
theorem wanted_of {ops : List Oper} {o q : Oper} {j t : Nat} {b : Bool} {tmps : Array Value} (hg : o.guard = some (j, b)) (hj : nthC ops j = some q) (ht : q.dst = some t) :
    Region.wanted o (yielded ops.toArray tmps) = ((match tmps[t]? with | some (.bool c) => some c | _ => none) == some b) := by
  unfold Region.wanted
  rw [hg]
  have e : (ops.toArray[j]?).bind (·.dst) = some t := by rw [nthC_eq] at hj; simp [hj, ht]
  show (yielded ops.toArray tmps j == some b) = _
  unfold yielded
  rw [e]
  rfl
theorem tmps_bool {a : Act} {t : Nat} {c : Bool} (h : a.tmps.getD t Go.undef = .bool c) : a.tmps[t]? = some (.bool c) := by
  rw [Array.getD_eq_getD_getElem?] at h
  cases ht : a.tmps[t]? with
  | none => simp [ht, Go.undef] at h
  | some v => simp [ht] at h; rw [h]
theorem tmps_undef {a : Act} {t : Nat} (h : a.tmps.getD t Go.undef = Go.undef) : (match a.tmps[t]? with | some (.bool c) => some c | _ => none) = none := by
  rw [Array.getD_eq_getD_getElem?] at h
  cases ht : a.tmps[t]? with
  | none => rfl
  | some v => simp [ht, Go.undef] at h; subst h; rfl
theorem goes_wanted {ops : List Oper} {o : Oper} {env : List (Nat × SV)} {y : Bool} {V : Vl} {a : Act} (h : goes ops env o.guard = some y) (he : EnvR V env a) : Region.wanted o (yielded ops.toArray a.tmps) = y := by
  unfold goes at h
  cases hg : o.guard with
  | none => simp only [hg, Option.some.injEq] at h; subst h; unfold Region.wanted; rw [hg]
  | some q =>
    obtain ⟨j, b⟩ := q
    simp only [hg] at h
    cases hj : nthC ops j with
    | none => simp [hj] at h
    | some o' =>
      simp only [hj] at h
      cases hd : o'.dst with
      | none => simp [hd] at h
      | some t =>
        simp only [hd] at h
        rw [wanted_of hg hj hd]
        split at h
        · rename_i c hf
          rw [tmps_bool (he t _ hf)]
          cases c <;> cases b <;> (simp only [Option.some.injEq] at h; subst h; rfl)
        · rename_i hf
          rw [tmps_undef (he t _ hf)]
          simp only [Option.some.injEq] at h; subst h; rfl
        · cases h
structure Sq (x : Cx) (ops l : List Oper) (s : St) (K : St → Prop) : Prop where
  run : ∀ g (Q : Exit → Act → World → Prop) V a w, (∀ s' V' a' w', K s' → Rep x g V' s' a' w' → Q .normal a' w') → Rep x g V s a w → wpList x.P ops.toArray Q l a w
theorem Rep.know {x : Cx} {g : Gx} {V : Vl} {s : St} {a : Act} {w : World} (h : Rep x g V s a w) {t : Nat} {u v : SV} (hf : find s.env t = some u) (he : ∀ V, den V v = den V u) (hk : okV s.nb v = true) : Rep x g V ⟨(t, v) :: s.env, s.mem, s.nb⟩ a w := by
  refine ⟨h.defers, h.size, fun y z hy => ?_, envOk_put h.envOk hk, h.ents.env, h.frame, h.own, h.pin, h.d0⟩
  simp only [find_cons] at hy
  split at hy
  · rename_i e; subst e; cases hy; rw [he]; exact h.env _ _ hf
  · exact h.env _ _ hy
section
variable {x : Cx} {ops l : List Oper} {s : St} {K : St → Prop}
theorem sq_nil (h : K s) : Sq x ops [] s K := ⟨fun g Q V a w hQ hr => hQ s V a w h hr⟩
theorem sq_step {o : Oper} {s' : St} (hg : goes ops s.env o.guard = some true) (h : StepTo x s o s') (hk : Sq x ops l s' K) : Sq x ops (o :: l) s K :=
  ⟨fun g Q V a w hQ hr => by
    unfold wpList
    rw [if_pos (goes_wanted hg hr.env)]
    refine .inl (Oper.wp_mono (fun a' w' ⟨V', hr'⟩ => hk.run g Q V' a' w' hQ hr') (h.run g V a w Q hr))⟩
theorem sq_skip {o : Oper} {t : Nat} (hg : goes ops s.env o.guard = some false) (hd : o.dst = some t) (h1 : Nat.blt t x.n = true) (hk : Sq x ops l ⟨(t, .undef) :: s.env, s.mem, s.nb⟩ K) : Sq x ops (o :: l) s K :=
  ⟨fun g Q V a w hQ hr => by
    unfold wpList
    rw [if_neg (by rw [goes_wanted hg hr.env]; decide)]
    rw [hd]
    exact hk.run g Q V _ w hQ (hr.put (v := .undef) h1 rfl)⟩
theorem sq_skip' {o : Oper} (hg : goes ops s.env o.guard = some false) (hd : o.dst = none) (hk : Sq x ops l s K) : Sq x ops (o :: l) s K :=
  ⟨fun g Q V a w hQ hr => by
    unfold wpList
    rw [if_neg (by rw [goes_wanted hg hr.env]; decide)]
    rw [hd]
    exact hk.run g Q V _ w hQ hr⟩
theorem sq_split {d : Nat} {c : Bool} (hf : find s.env d = some (.bool c)) (h1 : c = true → Sq x ops l ⟨(d, .tf true) :: s.env, s.mem, s.nb⟩ K) (h2 : c = false → Sq x ops l ⟨(d, .tf false) :: s.env, s.mem, s.nb⟩ K) : Sq x ops l s K :=
  ⟨fun g Q V a w hQ hr => by
    cases c with
    | true => exact (h1 rfl).run g Q V a w hQ (hr.know hf (fun _ => rfl) rfl)
    | false => exact (h2 rfl).run g Q V a w hQ (hr.know hf (fun _ => rfl) rfl)⟩
end
def QR (x : Cx) (g : Gx) (Q : Exit → St → Prop) : Exit → Act → World → Prop := fun e a w => ∃ s V, Q e s ∧ Rep x g V s a w
structure Tr (x : Cx) (c : Code) (Q : Exit → St → Prop) (s : St) : Prop where
  run : ∀ g V a w, Rep x g V s a w → c.wp x.P (QR x g Q) a w
def thenS (next : St → Prop) (Q : Exit → St → Prop) : Exit → St → Prop
  | .normal, s => next s
  | e, s => Q e s
def blockS (id : Nat) (Q : Exit → St → Prop) : Exit → St → Prop
  | .exit i, s => match Nat.beq i id with
    | true => Q .normal s
    | false => Q (.exit i) s
  | e, s => Q e s
def noGotoS (Q : Exit → St → Prop) : Exit → St → Prop
  | .goto _, _ => False
  | e, s => Q e s
section
variable {x : Cx} {Q : Exit → St → Prop} {s : St} {c d : Code}
theorem tr_skip (h : Q .normal s) : Tr x .skip Q s := ⟨fun g V _ _ hr => wp_skip ⟨s, V, h, hr⟩⟩
theorem tr_label {l : Nat} (h : Q .normal s) : Tr x (.label l) Q s := ⟨fun g V _ _ hr => wp_label ⟨s, V, h, hr⟩⟩
theorem tr_exit {id : Nat} (h : Q (.exit id) s) : Tr x (.exit id) Q s := ⟨fun g V _ _ hr => wp_exit ⟨s, V, h, hr⟩⟩
theorem tr_ret (h : Q .ret s) : Tr x .ret Q s := ⟨fun g V _ _ hr => wp_ret ⟨s, V, h, hr⟩⟩
theorem Tr.mono {Q' : Exit → St → Prop} (h : Tr x c Q s) (hq : ∀ e s', Q e s' → Q' e s') : Tr x c Q' s := ⟨fun g V a w hr => Go.wp_mono (h.run g V a w hr) fun e a' w' ⟨s', V', q, hr'⟩ => ⟨s', V', hq e s' q, hr'⟩⟩
theorem tr_seq (h : Tr x c (thenS (fun s' => Tr x d Q s') Q) s) : Tr x (.seq c d) Q s :=
  ⟨fun g V a w hr => wp_seq (Go.wp_mono (h.run g V a w hr) fun e a' w' ⟨s', V', hq, hr'⟩ => by
    cases e with
    | normal => exact Tr.run hq g V' a' w' hr'
    | _ => exact ⟨s', V', hq, hr'⟩)⟩
theorem tr_block {id : Nat} (h : Tr x c (blockS id Q) s) : Tr x (.block id c) Q s :=
  ⟨fun g V a w hr => wp_block (Go.wp_mono (h.run g V a w hr) fun e a' w' ⟨s', V', hq, hr'⟩ => by
    cases e with
    | exit i =>
      simp only [blockS] at hq
      by_cases e : i = id
      · subst e
        simp only [Nat.beq_refl] at hq
        simp only [Exit.inBlock, if_true]
        exact ⟨s', V', hq, hr'⟩
      · have : Nat.beq i id = false := by
          cases h : Nat.beq i id with
          | false => rfl
          | true => exact absurd (Nat.eq_of_beq_eq_true h) e
        simp only [this] at hq
        simp only [Exit.inBlock, if_neg e]
        exact ⟨s', V', hq, hr'⟩
    | _ => exact ⟨s', V', hq, hr'⟩)⟩
theorem tr_scope (h : Tr x c (noGotoS Q) s) : Tr x (.scope c) Q s :=
  ⟨fun g V a w hr => wp_scope_straight (Go.wp_mono (h.run g V a w hr) fun e a' w' ⟨s', V', hq, hr'⟩ => by
    cases e with
    | goto l => exact hq.elim
    | _ => exact ⟨s', V', hq, hr'⟩)⟩
theorem tr_cond_t {o : Operand} (hc : s.get o = some (.tf true)) (h : Tr x c Q s) : Tr x (.cond o c d) Q s := ⟨fun g V a w hr => wp_cond_true (hr.env.get hc) (h.run g V a w hr)⟩
theorem tr_cond_f {o : Operand} (hc : s.get o = some (.tf false)) (h : Tr x d Q s) : Tr x (.cond o c d) Q s := ⟨fun g V a w hr => wp_cond_false (hr.env.get hc) (h.run g V a w hr)⟩
theorem tr_cond {o : Operand} {b : Bool} (hc : s.get o = some (.bool b)) (h1 : b = true → Tr x c Q s) (h2 : b = false → Tr x d Q s) : Tr x (.cond o c d) Q s :=
  ⟨fun g V a w hr => by
    have hv := hr.env.get hc
    cases b with
    | true => exact wp_cond_true hv ((h1 rfl).run g V a w hr)
    | false => exact wp_cond_false hv ((h2 rfl).run g V a w hr)⟩
theorem tr_region {id : Nat} {ops : Array Oper} (h : Sq x ops.toList ops.toList s fun s' => Q .normal s') : Tr x (.region id ops false) Q s :=
  ⟨fun g V a w hr => wp_region_lit (h.run g _ V a w (fun s' V' a' w' hs hr' => ⟨s', V', hs, hr'⟩) hr)⟩
end
inductive Kf where
  | seq (d : Code)
  | blk (id : Nat)
  | scp
inductive Mo where
  | code (c : Code)
  | ops (all l : List Oper)
  | exit (e : Exit)
def QK (x : Cx) : List Kf → (Exit → St → Prop) → Exit → St → Prop
  | [], Q => Q
  | .seq d :: K, Q => thenS (fun s' => Tr x d (QK x K Q) s') (QK x K Q)
  | .blk id :: K, Q => blockS id (QK x K Q)
  | .scp :: K, Q => noGotoS (QK x K Q)
def TrM (x : Cx) (Q : Exit → St → Prop) : Mo → List Kf → St → Prop
  | .code c, K, s => Tr x c (QK x K Q) s
  | .ops all l, K, s => Sq x all l s fun s' => QK x K Q .normal s'
  | .exit e, K, s => QK x K Q e s
inductive Res where
  | fin (obs : List Prop) (e : Exit) (s : St)
  | cond (obs : List Prop) (b : Bool) (c d : Code) (K : List Kf) (s : St)
  | split (obs : List Prop) (b : Bool) (d : Nat) (all l : List Oper) (K : List Kf) (s : St)
  | code (obs : List Prop) (c : Code) (K : List Kf) (s : St)
  | ops (obs : List Prop) (all l : List Oper) (K : List Kf) (s : St)
  | out (obs : List Prop) (m : Mo) (K : List Kf) (s : St)
def run (x : Cx) : Nat → List Prop → Mo → List Kf → St → Res
  | 0, obs, m, K, s => .out obs m K s
  | n + 1, obs, .code c, K, s => match c with
    | .skip => run x n obs (.exit .normal) K s
    | .label _ => run x n obs (.exit .normal) K s
    | .seq a b => run x n obs (.code a) (.seq b :: K) s
    | .block id b => run x n obs (.code b) (.blk id :: K) s
    | .scope b => run x n obs (.code b) (.scp :: K) s
    | .exit id => run x n obs (.exit (.exit id)) K s
    | .ret => run x n obs (.exit .ret) K s
    | .cond o a b => match s.get o with
      | some (.tf true) => run x n obs (.code a) K s
      | some (.tf false) => run x n obs (.code b) K s
      | some (.bool v) => .cond obs v a b K s
      | _ => .code obs (.cond o a b) K s
    | .region id ops draw => match draw with
      | false => run x n obs (.ops ops.toList ops.toList) K s
      | true => .code obs (.region id ops true) K s
    | c => .code obs c K s
  | n + 1, obs, .ops all [], K, s => run x n obs (.exit .normal) K s
  | n + 1, obs, .ops all (o :: l), K, s => match goes all s.env o.guard with
    | some true => match stepO x s o with
      | some (s', ob) => run x n (app ob obs) (.ops all l) K s'
      | none => .ops obs all (o :: l) K s
    | some false => match o.dst with
      | some t => match Nat.blt t x.n, s with
        | true, ⟨env, mem, nb⟩ => run x n obs (.ops all l) K ⟨(t, .undef) :: env, mem, nb⟩
        | false, s => .ops obs all (o :: l) K s
      | none => run x n obs (.ops all l) K s
    | none => match o.guard with
      | some (j, _) => match nthC all j with
        | some q => match q.dst with
          | some d => match find s.env d with
            | some (.bool v) => .split obs v d all (o :: l) K s
            | _ => .ops obs all (o :: l) K s
          | none => .ops obs all (o :: l) K s
        | none => .ops obs all (o :: l) K s
      | none => .ops obs all (o :: l) K s
  | n + 1, obs, .exit e, [], s => .fin obs e s
  | n + 1, obs, .exit e, .seq d :: K, s => match e with
    | .normal => run x n obs (.code d) K s
    | e => run x n obs (.exit e) K s
  | n + 1, obs, .exit e, .blk id :: K, s => match e with
    | .exit i => match Nat.beq i id with
      | true => run x n obs (.exit .normal) K s
      | false => run x n obs (.exit (.exit i)) K s
    | e => run x n obs (.exit e) K s
  | n + 1, obs, .exit e, .scp :: K, s => match e with
    | .goto l => .out obs (.exit (.goto l)) (.scp :: K) s
    | e => run x n obs (.exit e) K s
def Good (x : Cx) (Q : Exit → St → Prop) : Res → Prop
  | .fin obs e s => AllP obs ∧ Q e s
  | .cond obs b c d K s => AllP obs ∧ (b = true → TrM x Q (.code c) K s) ∧ (b = false → TrM x Q (.code d) K s)
  | .split obs b t all l K s => AllP obs ∧ (b = true → TrM x Q (.ops all l) K ⟨(t, .tf true) :: s.env, s.mem, s.nb⟩) ∧ (b = false → TrM x Q (.ops all l) K ⟨(t, .tf false) :: s.env, s.mem, s.nb⟩)
  | .code obs c K s => AllP obs ∧ TrM x Q (.code c) K s
  | .ops obs all l K s => AllP obs ∧ TrM x Q (.ops all l) K s
  | .out obs m K s => AllP obs ∧ TrM x Q m K s
theorem run_ok {x : Cx} (hL : LayOk x.P x.L) {Q : Exit → St → Prop} : ∀ {n : Nat} {obs : List Prop} {m : Mo} {K : List Kf} {s : St}, Good x Q (run x n obs m K s) → AllP obs ∧ TrM x Q m K s
  | 0, obs, m, K, s, h => h
  | n + 1, obs, .code c, K, s, h => by
    unfold run at h
    split at h
    · obtain ⟨h1, h2⟩ := run_ok hL h; exact ⟨h1, tr_skip h2⟩
    · obtain ⟨h1, h2⟩ := run_ok hL h; exact ⟨h1, tr_label h2⟩
    · obtain ⟨h1, h2⟩ := run_ok hL h; exact ⟨h1, tr_seq h2⟩
    · obtain ⟨h1, h2⟩ := run_ok hL h; exact ⟨h1, tr_block h2⟩
    · obtain ⟨h1, h2⟩ := run_ok hL h; exact ⟨h1, tr_scope h2⟩
    · obtain ⟨h1, h2⟩ := run_ok hL h; exact ⟨h1, tr_exit h2⟩
    · obtain ⟨h1, h2⟩ := run_ok hL h; exact ⟨h1, tr_ret h2⟩
    · split at h
      · rename_i hc; obtain ⟨h1, h2⟩ := run_ok hL h; exact ⟨h1, tr_cond_t hc h2⟩
      · rename_i hc; obtain ⟨h1, h2⟩ := run_ok hL h; exact ⟨h1, tr_cond_f hc h2⟩
      · rename_i v hc; exact ⟨h.1, tr_cond hc h.2.1 h.2.2⟩
      · exact h
    · split at h
      · obtain ⟨h1, h2⟩ := run_ok hL h; exact ⟨h1, tr_region h2⟩
      · exact h
    · exact h
  | n + 1, obs, .ops all [], K, s, h => by
    unfold run at h
    obtain ⟨h1, h2⟩ := run_ok hL h; exact ⟨h1, sq_nil h2⟩
  | n + 1, obs, .ops all (o :: l), K, s, h => by
    unfold run at h
    split at h
    · rename_i hg
      split at h
      · rename_i s' ob hs
        obtain ⟨h1, h2⟩ := run_ok hL h
        obtain ⟨h3, h4⟩ := AllP_app.1 h1
        exact ⟨h4, sq_step hg (stepO_ok hL hs h3) h2⟩
      · exact h
    · rename_i hg
      split at h
      · rename_i t hd
        split at h
        · rename_i env mem nb hb
          obtain ⟨h1, h2⟩ := run_ok hL h; exact ⟨h1, sq_skip hg hd hb h2⟩
        · exact h
      · rename_i hd
        obtain ⟨h1, h2⟩ := run_ok hL h; exact ⟨h1, sq_skip' hg hd h2⟩
    · split at h
      · split at h
        · split at h
          · split at h
            · rename_i v hf; exact ⟨h.1, sq_split hf h.2.1 h.2.2⟩
            · exact h
          · exact h
        · exact h
      · exact h
  | n + 1, obs, .exit e, [], s, h => h
  | n + 1, obs, .exit e, .seq d :: K, s, h => by
    unfold run at h
    split at h
    · obtain ⟨h1, h2⟩ := run_ok hL h; exact ⟨h1, h2⟩
    · rename_i hne
      obtain ⟨h1, h2⟩ := run_ok hL h
      refine ⟨h1, ?_⟩
      show thenS _ _ e s
      cases e <;> first | exact h2 | exact absurd rfl hne
  | n + 1, obs, .exit e, .blk id :: K, s, h => by
    unfold run at h
    split at h
    · rename_i i
      split at h
      · rename_i hb
        obtain ⟨h1, h2⟩ := run_ok hL h
        refine ⟨h1, ?_⟩
        show blockS id _ (.exit i) s
        unfold blockS
        simp only [hb]
        exact h2
      · rename_i hb
        obtain ⟨h1, h2⟩ := run_ok hL h
        refine ⟨h1, ?_⟩
        show blockS id _ (.exit i) s
        unfold blockS
        simp only [hb]
        exact h2
    · rename_i hne
      obtain ⟨h1, h2⟩ := run_ok hL h
      refine ⟨h1, ?_⟩
      show blockS id _ e s
      cases e <;> first | exact h2 | exact absurd rfl (hne _)
  | n + 1, obs, .exit e, .scp :: K, s, h => by
    unfold run at h
    split at h
    · exact h
    · rename_i hne
      obtain ⟨h1, h2⟩ := run_ok hL h
      refine ⟨h1, ?_⟩
      show noGotoS _ e s
      cases e <;> first | exact h2 | exact absurd rfl (hne _)
theorem go {x : Cx} (n : Nat) {Q : Exit → St → Prop} {m : Mo} {K : List Kf} {s : St} (hL : LayOk x.P x.L) (h : Good x Q (run x n [] m K s)) : TrM x Q m K s := (run_ok hL h).2
end Go.Proofs.Ytkageldgmkajbaa
namespace Go.Proofs.Ytkageldgmkajbaa
open Go.RowKit
theorem Rep.ownList {x : Cx} {g : Gx} {V : Vl} {s : St} {act : Act} {w : World} (h : Rep x g V s act w) {c : Ty} {p : SV} {ys : List (El c)} {ks : List Nat} {rs : Option Nat} {b : Bool} {obs : List Prop} (hb : baseS s.mem c p = some (ys, ks, rs, b, obs)) (ho : AllP obs) (hk : ltAll s.nb ks = true) :
    ∃ V', Rep x g V' ⟨s.env, (s.nb, .list (mdOf b) c ys) :: killL ks s.mem, s.nb + 1⟩ act w ∧ AgrB s.nb V' V ∧ den V' (.sl ⟨s.nb, []⟩) = den V p := by
  obtain ⟨a, cap, news, pv, B⟩ := baseS_ok (md := mdOf b) h.ents hb ho (fun e => by subst e; rfl)
  have hmd : mdOf b = .own ∨ mdOf b = .sh := by cases b <;> simp [mdOf]
  refine ⟨_, h.list hmd B.src.rows (ltAll_spec hk) (L := ⟨a, ys.length, cap⟩) rfl B.le ?_ (fun j u hu => ?_) rs (fun hne => ?_) (fun kb hkb => (B.rk kb hkb).1) B.rp (Nat.le_refl _) (fun b _ _ => rfl) (SIO.refl w), Vl.ext_agr, ?_⟩
  · rcases B.blk with h | ⟨kb, a0, cs0, t0, q1, q2, q3, q4, q5, _⟩
    · exact .inl h
    · exact .inr ⟨a0, cs0, t0, q2, q3, q4, q5, B.cm⟩
  · have hpos : 0 < news.length := by have := (List.getElem?_eq_some_iff.1 hu).1; omega
    have hy : 0 < ys.length := Nat.pos_of_ne_zero fun e => by rw [B.src.rows.len, e, Nat.zero_mul] at hpos; omega
    rcases B.blk with h | ⟨kb, ⟨b0, o0, s0⟩, cs0, t0, q1, q2, q3, q4, q5, _⟩
    · have := B.le; omega
    · obtain ⟨ad, e1, e2⟩ := B.src.read j u hu
      rw [q2] at e1
      cases e1
      simp only at q3
      subst q3
      rw [Addr.add_mid] at e2
      exact ⟨_, q2, rfl, e2⟩
  · rcases B.blk with h | ⟨kb, a0, cs0, t0, q1, q2, q3, q4, q5, q6, q7⟩
    · exact absurd h hne
    · subst q1
      obtain ⟨b0, z1, z2, z3⟩ := q7
      refine ⟨(B.rk kb rfl).1, b0, z1, z2, z3, ?_⟩
      rw [q6]; unfold Loc.b; simp only [q2]
  · simp only [den, Vl.ext_new, nlF, Loc.hd]
    exact B.src.den.symm
def ownE (s : St) (t : Nat) (c : Ty) : StepR := match find s.env t with
  | some p => match baseS s.mem c p with
    | some (ys, ks, _, b, obs) => match ltAll s.nb ks with
      | true => plK ks fun ks => match s with
        | ⟨env, mem, nb⟩ => nx nb fun nb' => match b with
          | true => some (⟨(t, .sl ⟨nb, []⟩) :: env, (nb, .list .sh c ys) :: killL ks mem, nb'⟩, obs)
          | false => some (⟨(t, .sl ⟨nb, []⟩) :: env, (nb, .list .own c ys) :: killL ks mem, nb'⟩, obs)
      | false => none
    | none => none
  | none => none
structure Toward (x : Cx) (s s' : St) : Prop where
  run : ∀ g V a w, Rep x g V s a w → ∃ V', Rep x g V' s' a w
theorem Toward.refl {x : Cx} {s : St} : Toward x s s := ⟨fun g V a w h => ⟨V, h⟩⟩
theorem Toward.trans {x : Cx} {a b c : St} (h : Toward x a b) (g : Toward x b c) : Toward x a c := ⟨fun gx V act w hr => by obtain ⟨V', hr'⟩ := h.run gx V act w hr; exact g.run gx V' act w hr'⟩
theorem ownE_ok {x : Cx} {s : St} {t : Nat} {c : Ty} {s' : St} {obs : List Prop} (h : ownE s t c = some (s', obs)) (ho : AllP obs) : Toward x s s' := by
  refine ⟨fun g V a w hr => ?_⟩
  unfold ownE at h
  split at h
  · rename_i p hp
    split at h
    · rename_i ys ks rs b obs' hb
      split at h
      · rename_i hk
        rw [plK_eq] at h
        obtain ⟨env, mem, nb⟩ := s
        simp only [nx_eq] at h
        have key : ∀ {md}, mdOf b = md → AllP obs' → ∃ V', Rep x g V' ⟨(t, .sl ⟨nb, []⟩) :: env, (nb, .list md c ys) :: killL ks mem, nb + 1⟩ a w := by
          intro md e ho'
          subst e
          obtain ⟨V', h1, h2, h3⟩ := hr.ownList hb ho' hk
          refine ⟨V', h1.defers, h1.size, fun u z hu => ?_, envOk_put h1.envOk (by simp [okV, Nat.blt_eq]), h1.ents.env, h1.frame, h1.own, h1.pin, h1.d0⟩
          rw [find_cons] at hu
          split at hu
          · rename_i e; subst e; cases hu; rw [h3]; exact hr.env _ _ hp
          · exact h1.env u z hu
        split at h
        · simp only [Option.some.injEq, Prod.mk.injEq] at h
          obtain ⟨rfl, rfl⟩ := h
          exact key rfl ho
        · simp only [Option.some.injEq, Prod.mk.injEq] at h
          obtain ⟨rfl, rfl⟩ := h
          exact key rfl ho
      · cases h
    · cases h
  · cases h
def setC : List SV → Nat → SV → Option (List SV)
  | [], _, _ => none
  | _ :: l, 0, v => some (v :: l)
  | x :: l, n + 1, v => match setC l n v with
    | some r => some (x :: r)
    | none => none
theorem setC_eq : ∀ {l : List SV} {n : Nat} {v : SV} {r : List SV}, setC l n v = some r → r.length = l.length ∧ ∀ j, r[j]? = if j = n then some v else l[j]?
  | [], _, _, r, h => by simp [setC] at h
  | x :: l, 0, v, r, h => by
    simp only [setC, Option.some.injEq] at h
    subst h
    refine ⟨by simp, fun j => ?_⟩
    cases j <;> simp
  | x :: l, n + 1, v, r, h => by
    unfold setC at h
    split at h
    · rename_i r0 hr
      cases h
      obtain ⟨h1, h2⟩ := setC_eq hr
      refine ⟨by simp [h1], fun j => ?_⟩
      cases j with
      | zero => simp
      | succ j => simp only [List.getElem?_cons_succ, h2 j, Nat.add_right_cancel_iff]
    · cases h
def memL : SV → Option (Bool × List SV)
  | .tup l => some (true, l)
  | .agg l => some (false, l)
  | _ => none
def mkL : Bool → List SV → SV
  | true, l => .tup l
  | false, l => .agg l
theorem memL_eq {v : SV} {b : Bool} {l : List SV} (h : memL v = some (b, l)) : v = mkL b l := by
  unfold memL at h
  split at h <;> first | (cases h; rfl) | cases h
theorem mkL_den {V V' : Vl} {b : Bool} {l m : List SV} (h : denL V l = denL V' m) : den V (mkL b l) = den V' (mkL b m) := by
  cases b <;> simp only [mkL, den, h]
theorem mkL_ok {nb : Nat} {b : Bool} {l : List SV} : okV nb (mkL b l) = okL nb l := by cases b <;> rfl
def ownT (s : St) (t j : Nat) (c : Ty) : StepR := match find s.env t with
  | some u => match memL u with
    | some (bb, cs) => match nthC cs j with
      | some p => match baseS s.mem c p with
        | some (ys, ks, _, b, obs) => match ltAll s.nb ks with
          | true => plK ks fun ks => match s with
            | ⟨env, mem, nb⟩ => match setC cs j (.sl ⟨nb, []⟩) with
              | some cs' => plL cs' fun cs' => nx nb fun nb' => match b with
                | true => some (⟨(t, mkL bb cs') :: env, (nb, .list .sh c ys) :: killL ks mem, nb'⟩, obs)
                | false => some (⟨(t, mkL bb cs') :: env, (nb, .list .own c ys) :: killL ks mem, nb'⟩, obs)
              | none => none
          | false => none
        | none => none
      | none => none
    | none => none
  | none => none
theorem ownT_ok {x : Cx} {s : St} {t j : Nat} {c : Ty} {s' : St} {obs : List Prop} (h : ownT s t j c = some (s', obs)) (ho : AllP obs) : Toward x s s' := by
  refine ⟨fun g V a w hr => ?_⟩
  unfold ownT at h
  split at h
  · rename_i u hu
    split at h
    · rename_i bb cs hm
      have := memL_eq hm
      subst this
      split at h
      · rename_i p hp
        split at h
        · rename_i ys ks rs b obs' hb
          split at h
          · rename_i hk
            rw [plK_eq] at h
            obtain ⟨env, mem, nb⟩ := s
            simp only at h
            split at h
            · rename_i cs' hs
              rw [plL_eq] at h
              simp only [nx_eq] at h
              have key : ∀ {md}, mdOf b = md → AllP obs' → ∃ V', Rep x g V' ⟨(t, mkL bb cs') :: env, (nb, .list md c ys) :: killL ks mem, nb + 1⟩ a w := by
                intro md e ho'
                subst e
                obtain ⟨V', h1, h2, h3⟩ := hr.ownList hb ho' hk
                obtain ⟨l1, l2⟩ := setC_eq hs
                have hcs : okL nb cs = true := by have := hr.envOk t _ hu; rwa [mkL_ok] at this
                have hden : denL V' cs' = denL V cs := by
                  apply List.ext_getElem?
                  intro i
                  rw [denL_get', denL_get', l2]
                  by_cases hij : i = j
                  · subst hij
                    rw [if_pos rfl]
                    rw [nthC_eq] at hp
                    rw [hp]
                    simp only [Option.map_some, h3]
                  · rw [if_neg hij]
                    cases hc : cs[i]? with
                    | none => rfl
                    | some z => simp only [Option.map_some]; rw [den_agree h2 z ((okL_iff _ _).1 hcs z (List.mem_of_getElem? hc))]
                have hok' : okV (nb + 1) (mkL bb cs') = true := by
                  rw [mkL_ok]
                  refine (okL_iff _ _).2 fun z hz => ?_
                  obtain ⟨i, hi⟩ := List.mem_iff_getElem?.1 hz
                  rw [l2] at hi
                  split at hi
                  · cases hi; simp [okV, Nat.blt_eq]
                  · exact okV_mono (Nat.le_succ _) _ ((okL_iff _ _).1 hcs z (List.mem_of_getElem? hi))
                refine ⟨V', h1.defers, h1.size, fun y z hz => ?_, envOk_put h1.envOk hok', h1.ents.env, h1.frame, h1.own, h1.pin, h1.d0⟩
                rw [find_cons] at hz
                split at hz
                · rename_i e; subst e; cases hz; rw [mkL_den hden]; exact hr.env _ _ hu
                · exact h1.env y z hz
              split at h
              · simp only [Option.some.injEq, Prod.mk.injEq] at h
                obtain ⟨rfl, rfl⟩ := h
                exact key rfl ho
              · simp only [Option.some.injEq, Prod.mk.injEq] at h
                obtain ⟨rfl, rfl⟩ := h
                exact key rfl ho
            · cases h
          · cases h
        · cases h
      · cases h
    · cases h
  · cases h
def ownC (s : St) (k j : Nat) (c : Ty) : StepR := match find s.mem k with
  | some (.cells cs) => match nthC cs j with
    | some p => match baseS s.mem c p with
      | some (ys, ks, _, b, obs) => match ltAll s.nb ks, notIn k ks with
        | true, true => match s with
          | ⟨env, mem, nb⟩ => match setC cs j (.sl ⟨nb, []⟩) with
            | some cs' => plL cs' fun cs' => plK ks fun ks => nx nb fun nb' => match b with
              | true => some (⟨env, (k, .cells cs') :: (nb, .list .sh c ys) :: killL ks mem, nb'⟩, obs)
              | false => some (⟨env, (k, .cells cs') :: (nb, .list .own c ys) :: killL ks mem, nb'⟩, obs)
            | none => none
        | _, _ => none
      | none => none
    | none => none
  | _ => none
theorem okL_get {nb : Nat} {l : List SV} (h : okL nb l = true) {j : Nat} {v : SV} (hj : l[j]? = some v) : okV nb v = true := (okL_iff nb l).1 h v (List.mem_of_getElem? hj)
theorem Rep.recell {x : Cx} {g : Gx} {V : Vl} {s : St} {a : Act} {w : World} (h : Rep x g V s a w) {k : Nat} {c c' : List SV} (hf : find s.mem k = some (.cells c)) (hd : denL V c' = denL V c) (hok : okL s.nb c' = true) : Rep x g V ⟨s.env, (k, .cells c') :: s.mem, s.nb⟩ a w := by
  have hc : cont s.mem ⟨k, []⟩ = some (.cells c) := cont_iff.2 ⟨_, hf, rfl⟩
  obtain ⟨b, t, h1, h2⟩ := h.ents.at_ _ _ hc
  have hq : ∀ q b', contB (.cells c') q = some b' → ∃ b0, cont s.mem ⟨k, q⟩ = some b0 ∧ kindB b0 = kindB b' ∧ (liveB (V ⟨k, q⟩) b' → liveB (V ⟨k, q⟩) b0) := by
    intro q b' h
    obtain ⟨rfl, rfl⟩ := contB_cells h
    exact ⟨_, hc, rfl, fun _ => trivial⟩
  have hE := h.ents.upd (w' := w) (m' := .cells c') (b := b) s.env (h.ents.ok k _ hf).1 hok hq (fun r c1 hc1 hl hne => rfl) (fun q b' hb => by
    obtain ⟨rfl, rfl⟩ := contB_cells hb
    exact ⟨b, t, h1, by rw [hd]; exact h2⟩) h.d0w
  exact h.upd hE hq (Nat.le_refl _) (fun _ _ _ => rfl) (SIO.refl w)
theorem ownC_ok {x : Cx} {s : St} {k j : Nat} {c : Ty} {s' : St} {obs : List Prop} (h : ownC s k j c = some (s', obs)) (ho : AllP obs) : Toward x s s' := by
  refine ⟨fun g V a w hr => ?_⟩
  unfold ownC at h
  split at h
  · rename_i cs hf
    split at h
    · rename_i p hp
      split at h
      · rename_i ys ks rs b obs' hb
        split at h
        · rename_i hk hni
          obtain ⟨env, mem, nb⟩ := s
          split at h
          · rename_i env' mem' nb' e0
            cases e0
            split at h
            · rename_i cs' hset
              rw [plL_eq, plK_eq] at h
              simp only [nx_eq] at h
              have key : ∀ {md}, mdOf b = md → AllP obs' → ∃ V', Rep x g V' ⟨env, (k, .cells cs') :: (nb, .list md c ys) :: killL ks mem, nb + 1⟩ a w := by
                intro md e ho'
                subst e
                obtain ⟨V', h1, h2, h3⟩ := hr.ownList hb ho' hk
                obtain ⟨hlt, hok⟩ := hr.ents.ok k _ hf
                simp only [okM] at hok
                rw [nthC_eq] at hp
                obtain ⟨s1, s2⟩ := setC_eq hset
                refine ⟨V', h1.recell (c := cs) ?_ ?_ ?_⟩
                · have hlt' : k < nb := hlt
                  show find ((nb, _) :: killL ks mem) k = _
                  rw [find_cons, if_neg (by omega), find_kill, if_neg (notIn_spec hni)]; exact hf
                · apply List.ext_getElem?
                  intro i
                  rw [denL_get', denL_get', s2 i]
                  split
                  · rename_i e
                    subst e
                    rw [hp]
                    simp only [Option.map_some]
                    rw [h3, den_agree h2 p (okL_get hok hp)]
                  · rfl
                · rw [okL_iff]
                  intro y hy
                  obtain ⟨i, hi⟩ := List.mem_iff_getElem?.1 hy
                  rw [s2 i] at hi
                  split at hi
                  · cases hi; simp [okV, Nat.blt_eq]
                  · exact okV_mono (Nat.le_succ _) _ (okL_get hok hi)
              split at h
              · simp only [Option.some.injEq, Prod.mk.injEq] at h
                obtain ⟨rfl, rfl⟩ := h
                exact key rfl ho
              · simp only [Option.some.injEq, Prod.mk.injEq] at h
                obtain ⟨rfl, rfl⟩ := h
                exact key rfl ho
            · cases h
        · cases h
      · cases h
    · cases h
  · cases h
end Go.Proofs.Ytkageldgmkajbaa
namespace Go.Proofs.Ytkageldgmkajbaa
open Go.RowKit
def beqP (a b : Nat) (l : Option (List Prop)) : Option (List Prop) := match Nat.beq a b with
  | true => l
  | false => none
def pathE : Path → Path → Option (List Prop)
  | [], [] => some []
  | (i, j) :: p, (i', j') :: p' => match Nat.beq j j', pathE p p' with
    | true, some l => some ((i = i') :: l)
    | _, _ => none
  | _, _ => none
def ridE : Rid → Rid → Option (List Prop)
  | ⟨k, p⟩, ⟨k', p'⟩ => beqP k k' (pathE p p')
mutual
def eqS : SV → SV → Option (List Prop)
  | .int k n, u => match u with | .int k' n' => (match keq k k' with | true => some [n = n'] | false => none) | _ => none
  | .tf b, u => match u with | .tf b' => some [b = b'] | .bool b' => some [b = b'] | _ => none
  | .bool b, u => match u with | .tf b' => some [b = b'] | .bool b' => some [b = b'] | _ => none
  | .str s, u => match u with | .str s' => some [s = s'] | _ => none
  | .ptr k o, u => match u with | .ptr k' o' => beqP k k' (beqP o o' (some [])) | _ => none
  | .slc k o n c, u => match u with | .slc k' o' n' c' => beqP k k' (beqP o o' (beqP n n' (beqP c c' (some [])))) | _ => none
  | .el r es i f, u => match u with | .el r' es' i' f' => (match ridE r r', Nat.beq es es', Nat.beq f f' with | some l, true, true => some ((i = i') :: l) | _, _, _ => none) | _ => none
  | .sl r, u => match u with | .sl r' => ridE r r' | _ => none
  | .vw r es i n c, u => match u with | .vw r' es' i' n' c' => (match ridE r r', Nat.beq es es', c, c' with | some l, true, none, none => some ((i = i') :: (n = n') :: l) | some l, true, some a, some b => some ((i = i') :: (n = n') :: (a = b) :: l) | _, _, _, _ => none) | _ => none
  | .clo f l, u => match u with | .clo f' l' => beqP f f' (eqL l l') | _ => none
  | .agg l, u => match u with | .agg l' => eqL l l' | _ => none
  | .tup l, u => match u with | .tup l' => eqL l l' | _ => none
  | .undef, u => match u with | .undef => some [] | _ => none
  | .val v, u => match u with | .val v' => some [v = v'] | _ => none
  | .mp k, u => match u with | .mp k' => beqP k k' (some []) | _ => none
def eqL : List SV → List SV → Option (List Prop)
  | [], m => match m with | [] => some [] | _ => none
  | a :: l, m => match m with | b :: m => (match eqS a b, eqL l m with | some p, some q => some (app p q) | _, _ => none) | [] => none
end
theorem beqP_eq {a b : Nat} {l : Option (List Prop)} {m : List Prop} (h : beqP a b l = some m) : a = b ∧ l = some m := by
  unfold beqP at h
  split at h
  · rename_i hb; exact ⟨Nat.eq_of_beq_eq_true hb, h⟩
  · cases h
theorem pathE_eq : ∀ {p q : Path} {l : List Prop}, pathE p q = some l → AllP l → p = q
  | [], [], l, h, _ => rfl
  | (i, j) :: p, (i', j') :: p', l, h, ho => by
    unfold pathE at h
    split at h
    · rename_i l' hb hp
      cases h
      rw [ho.1, Nat.eq_of_beq_eq_true hb, pathE_eq hp ho.2]
    · cases h
  | [], _ :: _, l, h, _ => by simp [pathE] at h
  | _ :: _, [], l, h, _ => by simp [pathE] at h
theorem ridE_eq {r r' : Rid} {l : List Prop} (h : ridE r r' = some l) (ho : AllP l) : r = r' := by
  obtain ⟨k, p⟩ := r
  obtain ⟨k', p'⟩ := r'
  obtain ⟨h1, h2⟩ := beqP_eq h
  rw [h1, pathE_eq h2 ho]
mutual
theorem eqS_den (V : Vl) : ∀ {a b : SV} {l : List Prop}, eqS a b = some l → AllP l → den V a = den V b
  | .int k n, b, l, h, ho => by
    unfold eqS at h
    split at h
    · split at h
      · rename_i hk; cases h; rw [keq_eq hk, ho.1]
      · cases h
    · cases h
  | .tf a, b, l, h, ho => by
    unfold eqS at h
    split at h <;> first | (cases h; simp only [den, ho.1]; done) | cases h
  | .bool a, b, l, h, ho => by
    unfold eqS at h
    split at h <;> first | (cases h; simp only [den, ho.1]; done) | cases h
  | .str a, b, l, h, ho => by
    unfold eqS at h
    split at h <;> first | (cases h; simp only [den, ho.1]; done) | cases h
  | .ptr k o, b, l, h, ho => by
    unfold eqS at h
    split at h
    · obtain ⟨h1, h2⟩ := beqP_eq h
      obtain ⟨h3, _⟩ := beqP_eq h2
      rw [h1, h3]
    · cases h
  | .slc k o n c, b, l, h, ho => by
    unfold eqS at h
    split at h
    · obtain ⟨h1, h2⟩ := beqP_eq h
      obtain ⟨h3, h4⟩ := beqP_eq h2
      obtain ⟨h5, h6⟩ := beqP_eq h4
      obtain ⟨h7, _⟩ := beqP_eq h6
      rw [h1, h3, h5, h7]
    · cases h
  | .el r es i f, b, l, h, ho => by
    unfold eqS at h
    split at h
    · split at h
      · rename_i l' hr h1 h2
        cases h
        rw [ridE_eq hr ho.2, Nat.eq_of_beq_eq_true h1, Nat.eq_of_beq_eq_true h2, ho.1]
      · cases h
    · cases h
  | .sl r, b, l, h, ho => by
    unfold eqS at h
    split at h
    · rw [ridE_eq h ho]
    · cases h
  | .vw r es i n c, b, l, h, ho => by
    unfold eqS at h
    split at h
    · split at h
      · rename_i hr h1
        cases h
        rw [ridE_eq hr ho.2.2, Nat.eq_of_beq_eq_true h1, ho.1, ho.2.1]
      · rename_i hr h1
        cases h
        rw [ridE_eq hr ho.2.2.2, Nat.eq_of_beq_eq_true h1, ho.1, ho.2.1, ho.2.2.1]
      · cases h
    · cases h
  | .clo f m, b, l, h, ho => by
    unfold eqS at h
    split at h
    · obtain ⟨h1, h2⟩ := beqP_eq h
      simp only [den, h1, eqL_den V h2 ho]
    · cases h
  | .agg m, b, l, h, ho => by
    unfold eqS at h
    split at h
    · simp only [den, eqL_den V h ho]
    · cases h
  | .tup m, b, l, h, ho => by
    unfold eqS at h
    split at h
    · simp only [den, eqL_den V h ho]
    · cases h
  | .undef, b, l, h, ho => by
    unfold eqS at h
    split at h
    · rfl
    · cases h
  | .val v, b, l, h, ho => by
    unfold eqS at h
    split at h
    · cases h; rw [ho.1]
    · cases h
  | .mp k, b, l, h, ho => by
    unfold eqS at h
    split at h
    · obtain ⟨h1, _⟩ := beqP_eq h
      rw [h1]
    · cases h
theorem eqL_den (V : Vl) : ∀ {a b : List SV} {l : List Prop}, eqL a b = some l → AllP l → denL V a = denL V b
  | [], b, l, h, ho => by
    unfold eqL at h
    split at h
    · rfl
    · cases h
  | x :: a, b, l, h, ho => by
    unfold eqL at h
    split at h
    · split at h
      · rename_i p q h1 h2
        cases h
        obtain ⟨o1, o2⟩ := AllP_app.1 ho
        simp only [denL, eqS_den V h1 o1, eqL_den V h2 o2]
      · cases h
    · cases h
end
inductive Sr where
  | root (k : Nat)
  | rd (v : SV)
abbrev Sg := List (Nat × Sr)
def rdL (V : Vl) : SV → Path → Loc
  | .sl r, p => V ⟨r.k, r.p ++ p⟩
  | .vw r es i n c, [] => (V r).vw es i n c
  | .vw r _ i _ _, (a, j) :: q => V ⟨r.k, r.p ++ (i + a, j) :: q⟩
  | .slc k o n c, [] => ⟨(V ⟨k, []⟩).at o, n, c⟩
  | _, _ => ⟨none, 0, 0⟩
def Sg.vl (σ : Sg) (V : Vl) : Vl := fun r => match find σ r.k with
  | some (.root k') => V ⟨k', r.p⟩
  | some (.rd v) => rdL V v r.p
  | none => ⟨none, 0, 0⟩
mutual
def renS (σ : Sg) : SV → Option SV
  | .ptr k o => match find σ k with
    | some (.root k') => some (.ptr k' o)
    | _ => none
  | .slc k o n c => match find σ k with
    | some (.root k') => some (.slc k' o n c)
    | _ => none
  | .el ⟨k, p⟩ es i f => match find σ k with
    | some (.root k') => some (.el ⟨k', p⟩ es i f)
    | some (.rd (.sl ⟨k', q⟩)) => some (.el ⟨k', app q p⟩ es i f)
    | _ => none
  | .sl ⟨k, p⟩ => match find σ k with
    | some (.root k') => some (.sl ⟨k', p⟩)
    | some (.rd v) => match p, v with
      | [], .sl r => some (.sl r)
      | [], .vw r es i n c => some (.vw r es i n c)
      | [], .slc k o n c => some (.slc k o n c)
      | [], .val (.slice none 0 0) => some (.val (.slice none 0 0))
      | p, .sl ⟨k', q⟩ => some (.sl ⟨k', app q p⟩)
      | _, _ => none
    | _ => none
  | .vw ⟨k, p⟩ es i n c => match find σ k with
    | some (.root k') => some (.vw ⟨k', p⟩ es i n c)
    | some (.rd (.sl ⟨k', q⟩)) => some (.vw ⟨k', app q p⟩ es i n c)
    | _ => none
  | .clo f l => match renL σ l with
    | some l' => some (.clo f l')
    | none => none
  | .agg l => match renL σ l with
    | some l' => some (.agg l')
    | none => none
  | .tup l => match renL σ l with
    | some l' => some (.tup l')
    | none => none
  | .int k n => some (.int k n)
  | .tf b => some (.tf b)
  | .bool b => some (.bool b)
  | .str s => some (.str s)
  | .undef => some .undef
  | .val v => some (.val v)
  | .mp k => match find σ k with
    | some (.root k') => some (.mp k')
    | _ => none
def renL (σ : Sg) : List SV → Option (List SV)
  | [] => some []
  | x :: l => match renS σ x, renL σ l with
    | some x', some l' => some (x' :: l')
    | _, _ => none
end
mutual
theorem ren_den {σ : Sg} (V : Vl) : ∀ {v u : SV}, renS σ v = some u → den (σ.vl V) v = den V u
  | .ptr k o, u, h => by
    unfold renS at h
    split at h
    · rename_i hf; cases h; simp only [den, Sg.vl, hf]
    · cases h
  | .slc k o n c, u, h => by
    unfold renS at h
    split at h
    · rename_i hf; cases h; simp only [den, Sg.vl, hf]
    · cases h
  | .el ⟨k, p⟩ es i f, u, h => by
    unfold renS at h
    split at h
    · rename_i hf; cases h; simp only [den, Sg.vl, hf]
    · rename_i hf; cases h; simp only [den, Sg.vl, hf, rdL, app_eq]
    · cases h
  | .sl ⟨k, p⟩, u, h => by
    unfold renS at h
    split at h
    · rename_i hf; cases h; simp only [den, Sg.vl, hf]
    · rename_i v hf
      split at h
      · cases h; simp only [den, Sg.vl, hf, rdL, List.append_nil]
      · cases h; simp only [den, Sg.vl, hf, rdL]
      · cases h; simp only [den, Sg.vl, hf, rdL, Loc.hd]
      · cases h; simp only [den, Sg.vl, hf, rdL, Loc.hd]
      · cases h; simp only [den, Sg.vl, hf, rdL, app_eq]
      · cases h
    · cases h
  | .vw ⟨k, p⟩ es i n c, u, h => by
    unfold renS at h
    split at h
    · rename_i hf; cases h; simp only [den, Sg.vl, hf]
    · rename_i hf; cases h; simp only [den, Sg.vl, hf, rdL, app_eq]
    · cases h
  | .clo f l, u, h => by
    unfold renS at h
    split at h
    · rename_i l' hl; cases h; simp only [den, renL_den V hl]
    · cases h
  | .agg l, u, h => by
    unfold renS at h
    split at h
    · rename_i l' hl; cases h; simp only [den, renL_den V hl]
    · cases h
  | .tup l, u, h => by
    unfold renS at h
    split at h
    · rename_i l' hl; cases h; simp only [den, renL_den V hl]
    · cases h
  | .int k n, u, h => by simp only [renS, Option.some.injEq] at h; subst h; rfl
  | .tf b, u, h => by simp only [renS, Option.some.injEq] at h; subst h; rfl
  | .bool b, u, h => by simp only [renS, Option.some.injEq] at h; subst h; rfl
  | .str s, u, h => by simp only [renS, Option.some.injEq] at h; subst h; rfl
  | .undef, u, h => by simp only [renS, Option.some.injEq] at h; subst h; rfl
  | .val v, u, h => by simp only [renS, Option.some.injEq] at h; subst h; rfl
  | .mp k, u, h => by
    unfold renS at h
    split at h
    · rename_i hf; cases h; simp only [den, Sg.vl, hf]
    · cases h
theorem renL_den {σ : Sg} (V : Vl) : ∀ {l m : List SV}, renL σ l = some m → denL (σ.vl V) l = denL V m
  | [], m, h => by simp only [renL, Option.some.injEq] at h; subst h; rfl
  | x :: l, m, h => by
    unfold renL at h
    split at h
    · rename_i x' l' h1 h2
      cases h
      simp only [denL, ren_den V h1, renL_den V h2]
    · cases h
end
def noPr : List Pr → Bool
  | [] => true
  | .no :: l => noPr l
  | _ :: _ => false
theorem noPr_spec : ∀ {l : List Pr}, noPr l = true → ∀ (j : Nat) (p : Pr), l[j]? = some p → p = .no
  | [], _, j, p, h => by simp at h
  | q :: l, h, j, p, hj => by
    unfold noPr at h
    split at h
    · rename_i e; cases e
    · rename_i e
      cases e
      cases j with
      | zero => simp only [List.getElem?_cons_zero, Option.some.injEq] at hj; exact hj.symm
      | succ j => simp only [List.getElem?_cons_succ] at hj; exact noPr_spec h j p hj
    · cases h
def readS (mem : List (Nat × MB)) (c : Ty) : SV → Option (List (El c) × List Prop × Bool)
  | .sl ⟨k, p⟩ => match find mem k with
    | some (.list m c0 l0) => match descE c0 l0 p with
      | some (⟨_, l⟩, obs) => match castL (c' := c) l, m with
        | some l', .fz => some (l', obs, true)
        | some l', _ => some (l', obs, false)
        | none, _ => none
      | none => none
    | _ => none
  | .vw ⟨k, p⟩ es i n cx => match find mem k, Nat.beq es (wid c) with
    | some (.list m c0 l0), true => match descE c0 l0 p with
      | some (⟨_, l⟩, obs) => match castL (c' := c) l, m with
        | some l', .fz => some ((l'.drop i).take n, (i + n ≤ l'.length) :: app (leP n cx) obs, true)
        | some l', _ => some ((l'.drop i).take n, (i + n ≤ l'.length) :: app (leP n cx) obs, false)
        | none, _ => none
      | none => none
    | _, _ => none
  | .val (.slice none 0 0) => some ([], [], true)
  | .slc k 0 n cap => match find mem k, Nat.ble n cap with
    | some (.cells cs), true => match rowsT mem c n cs with
      | some (ys, ps, _, obs) => match noPr ps with
        | true => some (ys, obs, false)
        | false => none
      | none => none
    | _, _ => none
  | _ => none
def rootOf : SV → Option Nat
  | .sl r => some r.k
  | .vw r _ _ _ _ => some r.k
  | .slc k _ _ _ => some k
  | _ => none
theorem Md.le_tmp (m : Md) (p : Path) (d : Kd) (h : d = .tmp ∨ (d = .fz ∧ m = .fz)) : (m.at p).le d := by
  rcases h with rfl | ⟨rfl, rfl⟩
  · cases m.at p <;> exact trivial
  · cases p <;> simp [Md.at, Kd.le]
theorem readS_ok {D0 : Nat → Prop} {V : Vl} {s : St} {w : World} (hE : Ents D0 V s w) {c : Ty} {v : SV} {ys : List (El c)} {obs : List Prop} {fz : Bool} (h : readS s.mem c v = some (ys, obs, fz)) (ho : AllP obs) {md : Md} (hmd : md = .tmp ∨ (md = .fz ∧ fz = true)) {V' : Vl} {k0 : Nat} (hV : ∀ p, V' ⟨k0, p⟩ = rdL V v p) :
    ∀ p b', contB (.list md c ys) p = some b' → AtB V' w ⟨k0, p⟩ b' ∧ (liveB (V' ⟨k0, p⟩) b' → ∃ r b, cont s.mem r = some b ∧ liveB (V r) b ∧ (V' ⟨k0, p⟩).b = (V r).b ∧ (kindB b).le (kindB b') ∧ rootOf v = some r.k ∧ (md = .fz → kindB b = .fz)) := by
  have hkd : ∀ p, md.at p = .tmp ∨ (md.at p = .fz ∧ fz = true) := by
    intro p
    rcases hmd with rfl | ⟨rfl, h⟩
    · exact .inl (by simp [Md.at])
    · exact .inr ⟨by simp [Md.at], h⟩
  have hne : ∀ p, md.at p ≠ .own := by
    intro p e
    rcases hkd p with h | ⟨h, _⟩ <;> rw [h] at e <;> cases e
  have live : ∀ {L : Loc} {d d' : Kd} {c2 : Ty} {l2 : List (El c2)}, l2.length ≤ L.cap → d' ≠ .own → liveB L (.list d' c2 l2) → liveB L (.list d c2 l2) := by
    intro L d d' c2 l2 hc hd hl
    have hnn : l2 ≠ [] := by cases d' <;> first | exact absurd rfl hd | exact hl
    have hpos : 0 < l2.length := List.length_pos_iff.2 hnn
    cases d with
    | own => simp only [liveB]; omega
    | fz => exact hnn
    | tmp => exact hnn
  -- a list within
  have sub : ∀ {k : Nat} {q : Path} {m : Md} {c0 : Ty} {l0 : List (El c0)} {p : Path} {c2 : Ty} {l2 : List (El c2)} {p' : Path}, find s.mem k = some (.list m c0 l0) → desc c0 l0 q = some ⟨c2, l2⟩ → rootOf v = some k → (fz = true → m = .fz) → V' ⟨k0, p⟩ = V ⟨k, q⟩ → (∀ i j, V' ⟨k0, p ++ [(i, j)]⟩ = V ⟨k, q ++ [(i, j)]⟩) →
      AtB V' w ⟨k0, p⟩ (.list (md.at p') c2 l2) ∧ (liveB (V' ⟨k0, p⟩) (.list (md.at p') c2 l2) → ∃ r b, cont s.mem r = some b ∧ liveB (V r) b ∧ (V' ⟨k0, p⟩).b = (V r).b ∧ (kindB b).le (md.at p') ∧ rootOf v = some r.k ∧ (md = .fz → kindB b = .fz)) := by
    intro k q m c0 l0 p c2 l2 p' hf hd hr hm e1 e2
    have hc : cont s.mem ⟨k, q⟩ = some (.list (m.at q) c2 l2) := cont_iff.2 ⟨_, hf, by simp only [contB, hd]⟩
    have hat := hE.at_ _ _ hc
    refine ⟨hat.move e1 (fun i j => e2 i j) (fun h => absurd h (hne p')) (fun _ => rfl), fun hl => ⟨⟨k, q⟩, _, hc, ?_, by rw [e1], ?_, hr, fun h => ?_⟩⟩
    · rw [e1] at hl
      exact live hat.2.1 (hne p') hl
    · refine Md.le_tmp m q _ ?_
      rcases hkd p' with h | ⟨h, h'⟩
      · exact .inl h
      · exact .inr ⟨h, hm h'⟩
    · rcases hmd with h' | ⟨_, h'⟩
      · rw [h] at h'; cases h'
      · have := hm h'
        subst this
        rfl
  unfold readS at h
  split at h
  · rename_i k q
    split at h
    · rename_i m c0 l0 hf
      split at h
      · rename_i c' l obs' hd
        have key : ∀ {l' : List (El c)} {bb : Bool}, castL (c' := c) l = some l' → (bb = true → m = .fz) → some (l', obs', bb) = some (ys, obs, fz) → ∀ p b', contB (.list md c ys) p = some b' → AtB V' w ⟨k0, p⟩ b' ∧ (liveB (V' ⟨k0, p⟩) b' → ∃ r b, cont s.mem r = some b ∧ liveB (V r) b ∧ (V' ⟨k0, p⟩).b = (V r).b ∧ (kindB b).le (kindB b') ∧ rootOf (.sl ⟨k, q⟩) = some r.k ∧ (md = .fz → kindB b = .fz)) := by
          intro l' bb hc hm he p b' hb
          simp only [Option.some.injEq, Prod.mk.injEq] at he
          obtain ⟨rfl, rfl, rfl⟩ := he
          have hd' := descE_eq hd ho
          rw [castL_eq hc] at hd'
          simp only [contB] at hb
          split at hb
          · rename_i c2 l2 hd2
            cases hb
            exact sub (q := q ++ p) hf (by rw [desc_join hd', hd2]) rfl hm (by rw [hV]; rfl) (fun i j => by rw [hV]; simp only [rdL, List.append_assoc])
          · cases hb
        split at h
        · rename_i hc; exact key hc (fun _ => rfl) h
        · rename_i hc hne'; exact key hc (fun e => by cases e) h
        · cases h
      · cases h
    · cases h
  · rename_i k q es i n cx
    split at h
    · rename_i m c0 l0 hf hes
      have := Nat.eq_of_beq_eq_true hes
      subst this
      split at h
      · rename_i c' l obs' hd
        have key : ∀ {l' : List (El c)} {bb : Bool}, castL (c' := c) l = some l' → (bb = true → m = .fz) → some ((l'.drop i).take n, (i + n ≤ l'.length) :: app (leP n cx) obs', bb) = some (ys, obs, fz) → ∀ p b', contB (.list md c ys) p = some b' → AtB V' w ⟨k0, p⟩ b' ∧ (liveB (V' ⟨k0, p⟩) b' → ∃ r b, cont s.mem r = some b ∧ liveB (V r) b ∧ (V' ⟨k0, p⟩).b = (V r).b ∧ (kindB b).le (kindB b') ∧ rootOf (.vw ⟨k, q⟩ (wid c) i n cx) = some r.k ∧ (md = .fz → kindB b = .fz)) := by
          intro l' bb hc hm he p b' hb
          simp only [Option.some.injEq, Prod.mk.injEq] at he
          obtain ⟨rfl, rfl, rfl⟩ := he
          obtain ⟨h1, ho2⟩ := ho
          obtain ⟨h2, ho3⟩ := AllP_app.1 ho2
          have hd' := descE_eq hd ho3
          rw [castL_eq hc] at hd'
          have hcq : cont s.mem ⟨k, q⟩ = some (.list (m.at q) c l') := cont_iff.2 ⟨_, hf, by simp only [contB, hd']⟩
          have hat := hE.at_ _ _ hcq
          have hget : ∀ {a x}, ((l'.drop i).take n)[a]? = some x → a < n ∧ l'[i + a]? = some x := by
            intro a x hx
            rw [List.getElem?_take] at hx
            split at hx
            · rename_i ha; rw [List.getElem?_drop] at hx; exact ⟨ha, hx⟩
            · cases hx
          have hlen : ((l'.drop i).take n).length = n := by rw [List.length_take, List.length_drop]; omega
          cases p with
          | nil =>
            simp only [contB, desc, Option.some.injEq] at hb
            subst hb
            have e0 : V' ⟨k0, []⟩ = (V ⟨k, q⟩).vw (wid c) i n cx := by rw [hV]; rfl
            have hcap := list_cap hat
            refine ⟨⟨by rw [e0, hlen]; rfl, ?_, fun h => absurd h (hne []), fun a x hx j t ht => ?_⟩, fun hl => ?_⟩
            · rw [e0, hlen]
              show n ≤ cx.getD ((V ⟨k, q⟩).cap - i)
              cases cx with
              | none => simp only [Option.getD_none]; omega
              | some cc => exact h2.1
            · obtain ⟨ha, hx'⟩ := hget hx
              obtain ⟨a0, g1, g2, g3⟩ := hat.2.2.2 (i + a) x hx' j t ht
              rw [e0, vw_some hat (by omega : 0 < n) h1 h2 g1 g2]
              refine ⟨_, rfl, rfl, ?_⟩
              simp only
              have e3 : a0.off + i * wid c + (a * wid c + j) = a0.off + ((i + a) * wid c + j) := by rw [Nat.add_mul]; omega
              rw [e3, g3]
              cases t <;> simp only [denT]
              rw [show (Rid.ch ⟨k0, []⟩ a j) = ⟨k0, (a, j) :: []⟩ from rfl, hV]
              rfl
            · have hn0 : 0 < n := by
                have : (l'.drop i).take n ≠ [] := by
                  have hh := hne []
                  cases hkk : md.at [] with
                  | own => exact absurd hkk hh
                  | fz => rw [hkk] at hl; exact hl
                  | tmp => rw [hkk] at hl; exact hl
                have := List.length_pos_iff.2 this
                omega
              obtain ⟨a0, g1, g2, _⟩ := row_cells (i := i) hat (by omega)
              have hlq : l' ≠ [] := by intro e; subst e; simp at h1; omega
              refine ⟨⟨k, q⟩, _, hcq, ?_, ?_, Md.le_tmp m q _ ?_, rfl, fun h => ?_⟩
              · cases m.at q with
                | own => simp only [liveB]; omega
                | fz => exact hlq
                | tmp => exact hlq
              · rw [e0, vw_some hat hn0 h1 h2 g1 g2]
                unfold Loc.b
                simp only [g1]
              · rcases hkd [] with h | ⟨h, h'⟩
                · exact .inl h
                · exact .inr ⟨h, hm h'⟩
              · rcases hmd with h' | ⟨_, h'⟩
                · rw [h] at h'; cases h'
                · have := hm h'
                  subst this
                  rfl
          | cons ajj p =>
            obtain ⟨a, j⟩ := ajj
            simp only [contB, desc] at hb
            split at hb
            · rename_i c2 l2 hd2
              cases hb
              split at hd2
              · cases hd2
              · rename_i x hx
                split at hd2
                · rename_i c1 l1 hj
                  obtain ⟨ha, hx'⟩ := hget hx
                  have hds := desc_snoc hd' hx' hj
                  exact sub (q := q ++ (i + a, j) :: p) hf (by rw [show q ++ (i + a, j) :: p = (q ++ [(i + a, j)]) ++ p by simp, desc_join hds, hd2]) rfl hm (by rw [hV]; rfl) (fun i' j' => by rw [hV]; simp only [List.cons_append, rdL, List.append_assoc])
                · cases hd2
            · cases hb
        split at h
        · rename_i hc; exact key hc (fun _ => rfl) h
        · rename_i hc hne'; exact key hc (fun e => by cases e) h
        · cases h
      · cases h
    · cases h
  · cases h
    intro p b' hb
    simp only [contB] at hb
    split at hb
    · rename_i c2 l2 hd
      cases hb
      obtain ⟨rfl, e⟩ := desc_nil hd
      cases e
      have e0 : V' ⟨k0, []⟩ = ⟨none, 0, 0⟩ := by rw [hV]; rfl
      refine ⟨⟨by rw [e0]; rfl, by rw [e0]; exact Nat.le_refl _, fun h => absurd h (hne []), fun a x hx => by simp at hx⟩, fun hl => ?_⟩
      exfalso
      cases hkk : md.at [] with
      | own => exact hne [] hkk
      | fz => rw [hkk] at hl; exact hl rfl
      | tmp => rw [hkk] at hl; exact hl rfl
    · cases hb
  · rename_i k n cap
    split at h
    · rename_i cs hf hble
      split at h
      · rename_i ys' ps bb obs' hr
        split at h
        · rename_i hnp
          simp only [Option.some.injEq, Prod.mk.injEq] at h
          obtain ⟨rfl, rfl, rfl⟩ := h
          intro p b' hb
          have hmt : md = .tmp := by rcases hmd with h | ⟨_, h⟩; exact h; cases h
          subst hmt
          obtain ⟨k1, k2, k3, k4⟩ := rowsT_ok (V := V) hr ho
          have hc : cont s.mem ⟨k, []⟩ = some (.cells cs) := cont_iff.2 ⟨_, hf, rfl⟩
          obtain ⟨bk, t, g1, g2⟩ := hE.at_ _ _ hc
          have emp : ∀ {a j : Nat} {x : El c} {c1 : Ty} {l1 : List (El c1)}, ys'[a]? = some x → (tcells c x)[j]? = some (.sl c1 l1) → l1 = [] := by
            intro a j x c1 l1 hx hj
            obtain ⟨v', p', b'', q1, q2, q3, q4⟩ := k4 a x hx j _ hj
            have := noPr_spec hnp _ _ q2
            subst this
            rcases q3.con c1 l1 rfl with ⟨_, h⟩ | ⟨ρ, _, _, _, h, _⟩
            · exact h
            · cases h
          simp only [contB] at hb
          split at hb
          · rename_i c2 l2 hd
            cases hb
            cases p with
            | cons ajj p =>
              obtain ⟨a, j⟩ := ajj
              simp only [desc] at hd
              split at hd
              · cases hd
              · rename_i x hx
                split at hd
                · rename_i c1 l1 hj
                  have := emp hx hj
                  subst this
                  obtain ⟨rfl, e⟩ := desc_nil hd
                  cases e
                  have e0 : V' ⟨k0, [(a, j)]⟩ = ⟨none, 0, 0⟩ := by rw [hV]; rfl
                  refine ⟨⟨by rw [e0]; rfl, by rw [e0]; exact Nat.le_refl _, fun h => by simp [Md.at] at h, fun a x hx => by simp at hx⟩, fun hl => ?_⟩
                  exact absurd rfl (show ([] : List (El _)) ≠ [] from hl)
                · cases hd
            | nil =>
              simp only [desc, Option.some.injEq] at hd
              cases hd
              have e0 : V' ⟨k0, []⟩ = ⟨some ⟨bk, 0, none⟩, n, cap⟩ := by rw [hV]; simp only [rdL, Loc.at, g1, Option.map_some]
              refine ⟨⟨by rw [e0]; exact k1.symm, by rw [e0, k1]; exact Nat.le_of_ble_eq_true hble, fun h => by simp [Md.at] at h, fun a x hx j t' ht => ?_⟩, fun hl => ⟨⟨k, []⟩, _, hc, trivial, ?_, trivial, rfl, fun h => by cases h⟩⟩
              · obtain ⟨v', p', b'', q1, q2, q3, q4⟩ := k4 a x hx j t' ht
                refine ⟨⟨bk, 0, none⟩, by rw [e0], rfl, ?_⟩
                rw [Nat.zero_add]
                have hp := noPr_spec hnp _ _ q2
                subst hp
                have := denL_get V q1
                rw [q3.val] at this
                refine cell_of g2 (Eq.trans (by simp) (this.trans ?_))
                congr 1
                cases t' with
                | int k n => rfl
                | bool b => rfl
                | str s => rfl
                | sl c1 l1 =>
                  simp only [denT]
                  rw [show (Rid.ch ⟨k0, []⟩ a j) = ⟨k0, [(a, j)]⟩ from rfl, hV]
                  rfl
              · rw [e0]; unfold Loc.b; simp only [g1]
          · cases hb
        · cases h
      · cases h
    · cases h
  · cases h
end Go.Proofs.Ytkageldgmkajbaa
namespace Go.Proofs.Ytkageldgmkajbaa
open Go.RowKit
def envB (σ : Sg) (nb : Nat) (e : List (Nat × SV)) : List (Nat × SV) → Option (List Prop)
  | [] => some []
  | (k, v) :: l => match find e k, renS σ v, okV nb v with
    | some u, some v', true => match eqS v' u, envB σ nb e l with
      | some p, some q => some (app p q)
      | _, _ => none
    | _, _, _ => none
def leM (st : Bool) : Md → Md → Bool
  | .own, .fz => !st
  | .own, .sh => !st
  | .own, .own => true
  | .own, .tmp => true
  | .own, .pt _ _ => false
  | .sh, .own => false
  | .sh, .fz => !st
  | .sh, .sh => true
  | .sh, .tmp => true
  | .sh, .pt _ _ => false
  | .pt _ _, .tmp => true
  | .pt _ _, _ => false
  | .fz, .fz => true
  | .fz, .tmp => true
  | .fz, _ => false
  | .tmp, .tmp => true
  | .tmp, _ => false
def PtLe (wd n f n' f' : Nat) : Prop := ∀ i j, j < wd → (i < n ∨ (i = n ∧ j < f)) → (i < n' ∨ (i = n' ∧ j < f'))
def leMO (st : Bool) (n wd : Nat) (m' m : Md) : Option (List Prop) := match leM st m' m with
  | true => some []
  | false => match st, m', m with
    | false, .pt a _, .own => some [n ≤ a]
    | false, .sh, .pt a f => some [a = 0, f = 0]
    | false, .pt a' f', .pt a f => some [PtLe wd a f a' f']
    | _, _, _ => none
def entB (st : Bool) (σ : Sg) (nb : Nat) (s : St) (k : Nat) : MB → Option (List Prop × List Nat × List Nat)
  | .cells c => match find σ k, okL nb c, renL σ c with
    | some (.root k'), true, some c1 => match find s.mem k' with
      | some (.cells c') => match eqL c1 c' with
        | some obs => some (obs, [k'], [])
        | none => none
      | _ => none
    | _, _, _ => none
  | .deck v => match find σ k, okV nb v, renS σ v with
    | some (.root k'), true, some v1 => match find s.mem k' with
      | some (.deck v') => match eqS v1 v' with
        | some obs => some (obs, [k'], [])
        | none => none
      | some (.cells [u, .int .i64 p]) => match eqS v1 u, lenS s u with
        | some o1, some (n, o2) => some ((0 ≤ p) :: (p ≤ (n : Int)) :: app o1 o2, [k'], [])
        | _, _ => none
      | _ => none
    | _, _, _ => none
  | .mp es => match find σ k with
    | some (.root k') => match find s.mem k' with
      | some (.mp es') => some ([es = es'], [k'], [])
      | _ => none
    | _ => none
  | .list m c l => match find σ k with
    | some (.root k') => match find s.mem k' with
      | some (.list m' c' l') => match castL (c' := c) l', leMO st l.length (wid c) m' m with
        | some l'', some o1 => match m with
          | .own => some ((l = l'') :: o1, [k'], [])
          | .sh => some ((l = l'') :: o1, [k'], [])
          | .pt _ _ => some ((l = l'') :: o1, [k'], [])
          | _ => some ((l = l'') :: o1, [], [k'])
        | _, _ => none
      | _ => none
    | some (.rd v) => match readS s.mem c v with
      | some (ys, obs, fz) => match m, fz with
        | .tmp, _ => some ((l = ys) :: obs, [], (rootOf v).toList)
        | .fz, true => some ((l = ys) :: obs, [], (rootOf v).toList)
        | _, _ => none
      | none => none
    | none => none
  | .hole _ _ _ => none
  | .dead => some ([], [], [])
def memB (st : Bool) (σ : Sg) (nb : Nat) (s : St) : List (Nat × MB) → Option (List Prop × List Nat × List Nat)
  | [] => some ([], [], [])
  | (k, m) :: l => match Nat.blt k nb, entB st σ nb s k m, memB st σ nb s l with
    | true, some (o1, a1, b1), some (o2, a2, b2) => some (app o1 o2, app a1 a2, app b1 b2)
    | _, _, _ => none
def noneIn : List Nat → List Nat → Bool
  | [], _ => true
  | k :: l, a => match notIn k a with
    | true => noneIn l a
    | false => false
theorem noneIn_spec : ∀ {l a : List Nat}, noneIn l a = true → ∀ k ∈ l, k ∉ a
  | [], a, _, k, h => by simp at h
  | x :: l, a, h, k, hk => by
    unfold noneIn at h
    split at h
    · rename_i hb
      rcases List.mem_cons.1 hk with rfl | hk
      · exact notIn_spec hb
      · exact noneIn_spec h k hk
    · cases h
def heapB (st : Bool) (σ : Sg) (nb : Nat) (s : St) (tm : List (Nat × MB)) : Option (List Prop) := match memB st σ nb s tm with
  | some (obs, owns, reads) => match nodupB owns, noneIn reads owns with
    | true, true => some obs
    | _, _ => none
  | none => none
theorem envB_get {σ : Sg} {nb : Nat} {e : List (Nat × SV)} : ∀ {l : List (Nat × SV)} {obs : List Prop}, envB σ nb e l = some obs → AllP obs → ∀ k v, find l k = some v → okV nb v = true ∧ ∃ u v' o, find e k = some u ∧ renS σ v = some v' ∧ eqS v' u = some o ∧ AllP o
  | [], obs, h, _, k, v, hk => by simp [find] at hk
  | (a, b) :: l, obs, h, ho, k, v, hk => by
    unfold envB at h
    split at h
    · rename_i u v' h1 h2 h3
      split at h
      · rename_i p q h4 h5
        cases h
        obtain ⟨o1, o2⟩ := AllP_app.1 ho
        rw [find_cons] at hk
        split at hk
        · rename_i e0; subst e0; cases hk; exact ⟨h3, u, v', p, h1, h2, h4, o1⟩
        · exact envB_get h5 o2 k v hk
      · cases h
    · cases h
theorem memB_get {st : Bool} {σ : Sg} {nb : Nat} {s : St} : ∀ {l : List (Nat × MB)} {obs : List Prop} {owns reads : List Nat}, memB st σ nb s l = some (obs, owns, reads) → AllP obs → ∀ k m, find l k = some m → k < nb ∧ ∃ o a b, entB st σ nb s k m = some (o, a, b) ∧ AllP o ∧ (∀ j ∈ a, j ∈ owns) ∧ (∀ j ∈ b, j ∈ reads)
  | [], obs, owns, reads, h, _, k, v, hk => by simp [find] at hk
  | (a, b) :: l, obs, owns, reads, h, ho, k, v, hk => by
    unfold memB at h
    split at h
    · rename_i o1 a1 b1 o2 a2 b2 h1 h2 h3
      cases h
      obtain ⟨p1, p2⟩ := AllP_app.1 ho
      rw [find_cons] at hk
      split at hk
      · rename_i e0; subst e0; cases hk
        exact ⟨by simpa [Nat.blt_eq] using h1, o1, a1, b1, h2, p1, fun j hj => by rw [app_eq]; exact List.mem_append_left _ hj, fun j hj => by rw [app_eq]; exact List.mem_append_left _ hj⟩
      · obtain ⟨g1, o, a', b', g2, g3, g4, g5⟩ := memB_get h3 p2 k v hk
        exact ⟨g1, o, a', b', g2, g3, fun j hj => by rw [app_eq]; exact List.mem_append_right _ (g4 j hj), fun j hj => by rw [app_eq]; exact List.mem_append_right _ (g5 j hj)⟩
    · cases h
theorem memB_inj {st : Bool} {σ : Sg} {nb : Nat} {s : St} : ∀ {l : List (Nat × MB)} {obs : List Prop} {owns reads : List Nat}, memB st σ nb s l = some (obs, owns, reads) → nodupB owns = true → ∀ k1 k2 m1 m2 o1 o2 b1 b2 j, find l k1 = some m1 → find l k2 = some m2 → entB st σ nb s k1 m1 = some (o1, [j], b1) → entB st σ nb s k2 m2 = some (o2, [j], b2) → k1 = k2
  | [], obs, owns, reads, h, _, k1, k2, m1, m2, o1, o2, b1, b2, j, h1, _, _, _ => by simp [find] at h1
  | (a, m) :: l, obs, owns, reads, h, hn, k1, k2, m1, m2, o1, o2, b1, b2, j, h1, h2, e1, e2 => by
    unfold memB at h
    split at h
    · rename_i p1 a1 c1 p2 a2 c2 g1 g2 g3
      cases h
      have mem : ∀ {l : List (Nat × MB)} {obs : List Prop} {owns reads : List Nat}, memB st σ nb s l = some (obs, owns, reads) → ∀ k m o b, find l k = some m → entB st σ nb s k m = some (o, [j], b) → j ∈ owns := by
        intro l
        induction l with
        | nil => intro obs owns reads h k m o b hk; simp [find] at hk
        | cons x l ih =>
          intro obs owns reads h k m o b hk he
          obtain ⟨xa, xm⟩ := x
          unfold memB at h
          split at h
          · rename_i q1 w1 y1 q2 w2 y2 z1 z2 z3
            cases h
            rw [find_cons] at hk
            split at hk
            · rename_i e0; subst e0; cases hk
              rw [he] at z2
              cases z2
              exact List.mem_cons_self
            · rw [app_eq]; exact List.mem_append_right _ (ih z3 k m o b hk he)
          · cases h
      have tail : nodupB a2 = true := by
        have : ∀ {x y : List Nat}, nodupB (app x y) = true → nodupB y = true := by
          intro x
          induction x with
          | nil => intro y h; exact h
          | cons z x ih =>
            intro y h
            unfold app nodupB at h
            split at h
            · exact ih h
            · cases h
        exact this hn
      rw [find_cons] at h1 h2
      split at h1
      · rename_i ea1
        cases h1
        split at h2
        · rename_i ea2; exact ea1.symm.trans ea2
        · exfalso
          rw [ea1] at g2
          rw [e1] at g2
          cases g2
          exact nodupB_app hn j List.mem_cons_self (mem g3 k2 m2 o2 b2 h2 e2)
      · split at h2
        · rename_i ea2
          cases h2
          exfalso
          rw [ea2] at g2
          rw [e2] at g2
          cases g2
          exact nodupB_app hn j List.mem_cons_self (mem g3 k1 m1 o1 b1 h1 e1)
        · exact memB_inj g3 tail k1 k2 m1 m2 o1 o2 b1 b2 j h1 h2 e1 e2
    · cases h
structure EntOk (D0 : Nat → Prop) (st : Bool) (σ : Sg) (V : Vl) (s : St) (w : World) (nb k : Nat) (m : MB) (a b : List Nat) : Prop where
  okm : okM nb m = true
  at_ : ∀ p b', contB m p = some b' → AtB (σ.vl V) w ⟨k, p⟩ b'
  src : ∀ p b', contB m p = some b' → liveB (σ.vl V ⟨k, p⟩) b' → (∃ k' c, a = [k'] ∧ find σ k = some (.root k') ∧ cont s.mem ⟨k', p⟩ = some c ∧ liveB (V ⟨k', p⟩) c ∧ (kindB c).le (kindB b')) ∨
    (kindB b' ≠ .own ∧ ∃ r c, cont s.mem r = some c ∧ liveB (V r) c ∧ (σ.vl V ⟨k, p⟩).b = (V r).b ∧ (kindB c).le (kindB b') ∧ r.k ∈ b)
  fz : st = true → ∀ p b', contB m p = some b' → liveB (σ.vl V ⟨k, p⟩) b' → kindB b' = .fz → ∃ r c, cont s.mem r = some c ∧ liveB (V r) c ∧ (σ.vl V ⟨k, p⟩).b = (V r).b ∧ kindB c ≠ .own
theorem leM_le {st : Bool} {m' m : Md} (h : leM st m' m = true) (p : Path) : (m'.at p).le (m.at p) := by
  cases m with
  | tmp => cases m'.at p <;> exact trivial
  | _ => cases m' <;> first | (simp [leM] at h; done) | (cases p <;> simp [leM, Md.at, Kd.le] at h ⊢)
theorem desc_ok {c : Ty} {l : List (El c)} {i j : Nat} {q : Path} {y : (c : Ty) × List (El c)} (h : desc c l ((i, j) :: q) = some y) : i < l.length ∧ j < wid c := by
  simp only [desc] at h
  split at h
  · cases h
  · rename_i x hx
    split at h
    · rename_i hj
      refine ⟨(List.getElem?_eq_some_iff.1 hx).1, ?_⟩
      have := (List.getElem?_eq_some_iff.1 hj).1
      rwa [tcells_len] at this
    · cases h
theorem leMO_le {st : Bool} {n wd : Nat} {m' m : Md} {o : List Prop} (h : leMO st n wd m' m = some o) (ho : AllP o) {p : Path} (hp : ∀ i j q, p = (i, j) :: q → i < n ∧ j < wd) : (m'.at p).le (m.at p) := by
  unfold leMO at h
  split at h
  · rename_i h1; exact leM_le h1 p
  · split at h
    · cases h
      have h1 := ho.1
      cases p with
      | nil => exact trivial
      | cons x q =>
        obtain ⟨i, j⟩ := x
        have := hp i j q rfl
        simp only [Md.at]
        rw [if_pos (.inl (by omega))]; exact trivial
    · cases h
      obtain ⟨rfl, rfl, _⟩ := ho
      cases p with
      | nil => exact trivial
      | cons x q =>
        obtain ⟨i, j⟩ := x
        simp only [Md.at]
        rw [if_neg (by omega)]; exact trivial
    · cases h
      have h1 := ho.1
      cases p with
      | nil => exact trivial
      | cons x q =>
        obtain ⟨i, j⟩ := x
        have h2 := h1 i j (hp i j q rfl).2
        simp only [Md.at]
        rename_i a' f' a f _
        by_cases h3 : i < a ∨ (i = a ∧ j < f)
        · rw [if_pos h3, if_pos (h2 h3)]; exact trivial
        · rw [if_neg h3]; split <;> exact trivial
    · cases h
theorem leMO_st {n wd : Nat} {m' m : Md} {o : List Prop} (h : leMO true n wd m' m = some o) : leM true m' m = true := by
  unfold leMO at h
  split at h
  · assumption
  · cases h
theorem entB_ok {D0 : Nat → Prop} {st : Bool} {σ : Sg} {V : Vl} {s : St} {w : World} (hE : Ents D0 V s w) {nb k : Nat} {m : MB} {o : List Prop} {a b : List Nat} (h : entB st σ nb s k m = some (o, a, b)) (ho : AllP o) : EntOk D0 st σ V s w nb k m a b := by
  cases m with
  | hole _ _ _ => unfold entB at h; cases h
  | dead => exact ⟨rfl, (fun p b' h => by rw [contB_dead] at h; cases h), (fun p b' h => by rw [contB_dead] at h; cases h), (fun _ p b' h => by rw [contB_dead] at h; cases h)⟩
  | cells c =>
    unfold entB at h
    simp only at h
    split at h
    · rename_i k' c1 hf hok hr
      split at h
      · rename_i c' hs
        split at h
        · rename_i obs he
          simp only [Option.some.injEq, Prod.mk.injEq] at h
          obtain ⟨rfl, rfl, rfl⟩ := h
          have hc : cont s.mem ⟨k', []⟩ = some (.cells c') := cont_iff.2 ⟨_, hs, rfl⟩
          obtain ⟨bk, t, h1, h2⟩ := hE.at_ _ _ hc
          have e0 : σ.vl V ⟨k, []⟩ = V ⟨k', []⟩ := by simp only [Sg.vl, hf]
          refine ⟨hok, fun p b' hb => ?_, fun p b' hb hl => ?_, fun _ p b' hb hl hk => ?_⟩
          · obtain ⟨rfl, rfl⟩ := contB_cells hb
            refine ⟨bk, t, by rw [e0]; exact h1, ?_⟩
            rw [renL_den V hr, eqL_den V he ho]; exact h2
          · obtain ⟨rfl, rfl⟩ := contB_cells hb
            exact .inl ⟨k', _, rfl, hf, hc, trivial, trivial⟩
          · obtain ⟨rfl, rfl⟩ := contB_cells hb
            cases hk
        · cases h
      · cases h
    · cases h
  | deck v =>
    have hb1 : ∀ {q : Path} {b' : AB}, contB (.deck v) q = some b' → q = [] ∧ b' = .deck v := by
      intro q b' h
      cases q with
      | nil => simp only [contB, Option.some.injEq] at h; exact ⟨rfl, h.symm⟩
      | cons _ _ => simp [contB] at h
    unfold entB at h
    simp only at h
    split at h
    · rename_i k' v1 hf hok hr
      have e0 : σ.vl V ⟨k, []⟩ = V ⟨k', []⟩ := by simp only [Sg.vl, hf]
      split at h
      · rename_i v' hs
        split at h
        · rename_i obs he
          simp only [Option.some.injEq, Prod.mk.injEq] at h
          obtain ⟨rfl, rfl, rfl⟩ := h
          have hc : cont s.mem ⟨k', []⟩ = some (.deck v') := cont_iff.2 ⟨_, hs, rfl⟩
          obtain ⟨bk, t, p0, a0, n0, c0, h1, h2⟩ := hE.at_ _ _ hc
          refine ⟨hok, fun p b' hb => ?_, fun p b' hb hl => ?_, fun _ p b' hb hl hk => ?_⟩
          · obtain ⟨rfl, rfl⟩ := hb1 hb
            refine ⟨bk, t, p0, a0, n0, c0, by rw [e0]; exact h1, ?_⟩
            rw [ren_den V hr, eqS_den V he ho]; exact h2
          · obtain ⟨rfl, rfl⟩ := hb1 hb
            exact .inl ⟨k', _, rfl, hf, hc, trivial, trivial⟩
          · obtain ⟨rfl, rfl⟩ := hb1 hb
            cases hk
        · cases h
      · rename_i u p1 hs
        split at h
        · rename_i o1 n o2 he hl
          simp only [Option.some.injEq, Prod.mk.injEq] at h
          obtain ⟨rfl, rfl, rfl⟩ := h
          obtain ⟨q0, q1, q2⟩ := ho
          obtain ⟨q3, q4⟩ := AllP_app.1 q2
          have hc : cont s.mem ⟨k', []⟩ = some (.cells [u, .int .i64 p1]) := cont_iff.2 ⟨_, hs, rfl⟩
          obtain ⟨bk, t, h1, h2⟩ := hE.at_ _ _ hc
          obtain ⟨aa, cc, hd⟩ := lenS_ok hl q4 hE
          refine ⟨hok, fun p b' hb => ?_, fun p b' hb hl => ?_, fun _ p b' hb hl hk => ?_⟩
          · obtain ⟨rfl, rfl⟩ := hb1 hb
            have e1 : den (σ.vl V) v = den V u := by rw [ren_den V hr, eqS_den V he q3]
            refine ⟨bk, t, p1, aa, n, cc, by rw [e0]; exact h1, ?_, by rw [e1]; exact hd, q0, q1⟩
            rw [e1]; exact h2
          · obtain ⟨rfl, rfl⟩ := hb1 hb
            exact .inl ⟨k', _, rfl, hf, hc, trivial, trivial⟩
          · obtain ⟨rfl, rfl⟩ := hb1 hb
            cases hk
        · cases h
      · cases h
    · cases h
  | mp es =>
    have hb1 : ∀ {q : Path} {b' : AB}, contB (.mp es) q = some b' → q = [] ∧ b' = .mp es := by
      intro q b' h
      cases q with
      | nil => simp only [contB, Option.some.injEq] at h; exact ⟨rfl, h.symm⟩
      | cons _ _ => simp [contB] at h
    unfold entB at h
    simp only at h
    split at h
    · rename_i k' hf
      have e0 : σ.vl V ⟨k, []⟩ = V ⟨k', []⟩ := by simp only [Sg.vl, hf]
      split at h
      · rename_i es' hs
        simp only [Option.some.injEq, Prod.mk.injEq] at h
        obtain ⟨rfl, rfl, rfl⟩ := h
        have hc : cont s.mem ⟨k', []⟩ = some (.mp es') := cont_iff.2 ⟨_, hs, rfl⟩
        have hes : es = es' := ho.1
        obtain ⟨bk, arr, cl, h1, h2, h3⟩ := hE.at_ _ _ hc
        refine ⟨rfl, fun p b' hb => ?_, fun p b' hb hl => ?_, fun _ p b' hb hl hk => ?_⟩
        · obtain ⟨rfl, rfl⟩ := hb1 hb
          exact ⟨bk, arr, cl, by rw [e0]; exact h1, h2, by rw [hes]; exact h3⟩
        · obtain ⟨rfl, rfl⟩ := hb1 hb
          exact .inl ⟨k', _, rfl, hf, hc, trivial, trivial⟩
        · obtain ⟨rfl, rfl⟩ := hb1 hb
          cases hk
      · cases h
    · cases h
  | list md c l =>
    unfold entB at h
    simp only at h
    split at h
    · rename_i k' hf
      split at h
      · rename_i m' c' l' hs
        split at h
        · rename_i l'' o1 hcst hle
          have e0 : ∀ p, σ.vl V ⟨k, p⟩ = V ⟨k', p⟩ := fun p => by simp only [Sg.vl, hf]
          have key : l = l'' → AllP o1 → (∀ p b', contB (.list md c l) p = some b' → AtB (σ.vl V) w ⟨k, p⟩ b') ∧ ∀ p b', contB (.list md c l) p = some b' → liveB (σ.vl V ⟨k, p⟩) b' → ∃ x, cont s.mem ⟨k', p⟩ = some x ∧ liveB (V ⟨k', p⟩) x ∧ (kindB x).le (kindB b') ∧ (md.at p = .fz → leM true m' md = true → kindB x ≠ .own) ∧ kindB b' = md.at p := by
            intro e ho1
            subst e
            have he := castL_eq hcst
            have inner : ∀ p b', contB (.list md c l) p = some b' → ∃ c2 l2, b' = .list (md.at p) c2 l2 ∧ cont s.mem ⟨k', p⟩ = some (.list (m'.at p) c2 l2) ∧ (m'.at p).le (md.at p) := by
              intro p b' hb
              simp only [contB] at hb
              split at hb
              · rename_i c2 l2 hd
                cases hb
                cases he
                refine ⟨c2, l2, rfl, cont_iff.2 ⟨_, hs, by simp only [contB, hd]⟩, leMO_le hle ho1 (fun i j q hp => ?_)⟩
                subst hp
                exact desc_ok hd
              · cases hb
            have hdo : ∀ p, (m'.at p).le (md.at p) → md.at p = .own → m'.at p = .own := by
              intro p this h
              rw [h] at this
              cases hm : m'.at p with
              | own => rfl
              | fz => rw [hm] at this; exact this.elim
              | tmp => rw [hm] at this; exact this.elim
            refine ⟨fun p b' hb => ?_, fun p b' hb hl => ?_⟩
            · obtain ⟨c2, l2, rfl, hc, hpl⟩ := inner p b' hb
              exact (hE.at_ _ _ hc).move (e0 p) (fun i j => by rw [Rid.ch, Rid.ch]; exact e0 _) (hdo p hpl) (fun _ => rfl)
            · obtain ⟨c2, l2, rfl, hc, hpl⟩ := inner p b' hb
              refine ⟨_, hc, ?_, hpl, fun h1 h2 => ?_, rfl⟩
              · rw [e0] at hl
                have hcap := (hE.at_ _ _ hc).2.1
                have pos : l2 ≠ [] → (V ⟨k', p⟩).cap ≠ 0 := by
                  intro hne e
                  have := List.length_pos_iff.2 hne
                  omega
                cases hmd : md.at p with
                | own => rw [hmd] at hl; rw [hdo p hpl hmd]; exact hl
                | fz => rw [hmd] at hl; cases m'.at p with
                  | own => exact pos hl
                  | fz => exact hl
                  | tmp => exact hl
                | tmp => rw [hmd] at hl; cases m'.at p with
                  | own => exact pos hl
                  | fz => exact hl
                  | tmp => exact hl
              · simp only [kindB]
                intro h3
                cases md <;> cases m' <;> first | (simp [leM] at h2; done) | (cases p <;> simp [Md.at, leM] at h1 h2 h3)
          have fin : l = l'' → AllP o1 → ∀ {A B : List Nat}, (A = [k'] ∧ B = [] ∨ A = [] ∧ B = [k'] ∧ ∀ p, md.at p ≠ .own) → EntOk D0 st σ V s w nb k (.list md c l) A B := by
            intro e ho1 A B hAB
            obtain ⟨g1, g2⟩ := key e ho1
            refine ⟨rfl, g1, fun p b' hb hl => ?_, fun hst p b' hb hl hk => ?_⟩
            · obtain ⟨x, y1, y2, y3, _, y5⟩ := g2 p b' hb hl
              rcases hAB with ⟨rfl, rfl⟩ | ⟨rfl, rfl, hno⟩
              · exact .inl ⟨k', x, rfl, hf, y1, y2, y3⟩
              · exact .inr ⟨by rw [y5]; exact hno p, ⟨k', p⟩, x, y1, y2, by rw [e0], y3, List.mem_singleton_self _⟩
            · obtain ⟨x, y1, y2, y3, y4, y5⟩ := g2 p b' hb hl
              subst hst
              exact ⟨⟨k', p⟩, x, y1, y2, by rw [e0], y4 (y5.symm.trans hk) (leMO_st hle)⟩
          cases md <;> simp only [Option.some.injEq, Prod.mk.injEq] at h <;> obtain ⟨rfl, rfl, rfl⟩ := h
          · exact fin ho.1 ho.2 (.inl ⟨rfl, rfl⟩)
          · exact fin ho.1 ho.2 (.inl ⟨rfl, rfl⟩)
          · exact fin ho.1 ho.2 (.inr ⟨rfl, rfl, fun p => by simp [Md.at]⟩)
          · exact fin ho.1 ho.2 (.inr ⟨rfl, rfl, fun p => by simp [Md.at]⟩)
          · exact fin ho.1 ho.2 (.inl ⟨rfl, rfl⟩)
        · cases h
      · cases h
    · rename_i v hf
      split at h
      · rename_i ys obs fz hr
        have e0 : ∀ p, σ.vl V ⟨k, p⟩ = rdL V v p := fun p => by simp only [Sg.vl, hf]
        have fin : (md = .tmp ∨ (md = .fz ∧ fz = true)) → some ((l = ys) :: obs, ([] : List Nat), (rootOf v).toList) = some (o, a, b) → EntOk D0 st σ V s w nb k (.list md c l) a b := by
          intro hmd he
          simp only [Option.some.injEq, Prod.mk.injEq] at he
          obtain ⟨rfl, rfl, rfl⟩ := he
          obtain ⟨rfl, ho'⟩ := ho
          have g := readS_ok hE hr ho' hmd e0
          have hkd : ∀ p b', contB (.list md c l) p = some b' → kindB b' = md.at p := by
            intro p b' hb
            simp only [contB] at hb
            split at hb
            · cases hb; rfl
            · cases hb
          refine ⟨rfl, fun p b' hb => (g p b' hb).1, fun p b' hb hl => .inr ⟨?_, ?_⟩, fun hst p b' hb hl hk => ?_⟩
          · rw [hkd p b' hb]
            rcases hmd with rfl | ⟨rfl, _⟩ <;> simp [Md.at]
          · obtain ⟨r, c2, y1, y2, y3, y4, y5, y6⟩ := (g p b' hb).2 hl
            exact ⟨r, c2, y1, y2, y3, y4, by rw [y5]; simp⟩
          · obtain ⟨r, c2, y1, y2, y3, y4, y5, y6⟩ := (g p b' hb).2 hl
            refine ⟨r, c2, y1, y2, y3, ?_⟩
            have : md = .fz := by
              rw [hkd p b' hb] at hk
              rcases hmd with rfl | ⟨rfl, _⟩
              · simp [Md.at] at hk
              · rfl
            rw [y6 this]; simp
        split at h
        · exact fin (.inl rfl) h
        · exact fin (.inr ⟨rfl, rfl⟩) h
        · cases h
      · cases h
    · cases h
theorem memB_ok {D0 : Nat → Prop} {st : Bool} {σ : Sg} {V : Vl} {s : St} {w : World} (hE : Ents D0 V s w) {e : List (Nat × SV)} {tm : List (Nat × MB)} {nb : Nat} {obs' : List Prop} {owns reads : List Nat} (hm : memB st σ nb s tm = some (obs', owns, reads)) (hn : nodupB owns = true) (hni : noneIn reads owns = true) (ho : AllP obs') (hD : ∀ b, D0 b → b < w.heap.size) :
    Ents D0 (σ.vl V) ⟨e, tm, nb⟩ w ∧ (∀ b, Dl (σ.vl V) tm b → ∃ r c, cont s.mem r = some c ∧ liveB (V r) c ∧ kindB c = .own ∧ (V r).b = b ∧ r.k ∈ owns) ∧ (st = true → ∀ r b, cont tm r = some b → liveB (σ.vl V r) b → kindB b = .fz → ¬ Dl V s.mem (σ.vl V r).b) := by
  have ent : ∀ r b, cont tm r = some b → ∃ m o a b1, find tm r.k = some m ∧ contB m r.p = some b ∧ r.k < nb ∧ entB st σ nb s r.k m = some (o, a, b1) ∧ (∀ j ∈ a, j ∈ owns) ∧ (∀ j ∈ b1, j ∈ reads) ∧ EntOk D0 st σ V s w nb r.k m a b1 := by
    intro r b hc
    obtain ⟨m, h1, h2⟩ := cont_iff.1 hc
    obtain ⟨g1, o, a, b1, g2, g3, g4, g5⟩ := memB_get hm ho r.k m h1
    exact ⟨m, o, a, b1, h1, h2, g1, g2, g4, g5, entB_ok hE g2 g3⟩
  classical
  let src : Rid → Option Rid := fun r => match find σ r.k with
    | some (.root k') => some ⟨k', r.p⟩
    | _ => if h : ∃ r0 c, cont s.mem r0 = some c ∧ liveB (V r0) c ∧ (σ.vl V r).b = (V r0).b ∧ r0.k ∈ reads ∧ (∀ b, cont tm r = some b → (kindB c).le (kindB b)) then some h.choose else none
  have srcE : ∀ r b, cont tm r = some b → liveB (σ.vl V r) b → ∃ r0 c, src r = some r0 ∧ cont s.mem r0 = some c ∧ liveB (V r0) c ∧ (σ.vl V r).b = (V r0).b ∧ (kindB c).le (kindB b) ∧ ((∃ m o b1, find tm r.k = some m ∧ entB st σ nb s r.k m = some (o, [r0.k], b1) ∧ r0.k ∈ owns ∧ r0.p = r.p) ∨ (kindB b ≠ .own ∧ r0.k ∈ reads)) := by
    intro r b hc hl
    obtain ⟨m, o, a, b1, h1, h2, h3, h4, h5, h6, h7⟩ := ent r b hc
    rcases h7.src r.p b h2 hl with ⟨k', c, rfl, q1, q2, q3, q4⟩ | ⟨q0, r0, c, q1, q2, q3, q4, q5⟩
    · refine ⟨⟨k', r.p⟩, c, by simp only [src, q1], q2, q3, by simp only [Sg.vl, q1], q4, .inl ⟨m, o, b1, h1, h4, h5 k' (List.mem_singleton_self _), rfl⟩⟩
    · have hex : ∃ r0 c, cont s.mem r0 = some c ∧ liveB (V r0) c ∧ (σ.vl V r).b = (V r0).b ∧ r0.k ∈ reads ∧ (∀ b, cont tm r = some b → (kindB c).le (kindB b)) := ⟨r0, c, q1, q2, q3, h6 _ q5, fun b' hb' => by rw [hc] at hb'; cases hb'; exact q4⟩
      cases hf : find σ r.k with
      | none =>
        obtain ⟨c', z1, z2, z3, z4, z5⟩ := hex.choose_spec
        exact ⟨hex.choose, c', by simp only [src, hf, dif_pos hex], z1, z2, z3, z5 b hc, .inr ⟨q0, z4⟩⟩
      | some y =>
        cases y with
        | rd v =>
          obtain ⟨c', z1, z2, z3, z4, z5⟩ := hex.choose_spec
          exact ⟨hex.choose, c', by simp only [src, hf, dif_pos hex], z1, z2, z3, z5 b hc, .inr ⟨q0, z4⟩⟩
        | root k' =>
          -- a read block: its root is in 'b1'
          have hm2 : b1 = [k'] ∧ ∃ c', cont s.mem ⟨k', r.p⟩ = some c' ∧ liveB (V ⟨k', r.p⟩) c' ∧ (kindB c').le (kindB b) := by
            cases m with
            | cells cc => unfold entB at h4; simp only [hf] at h4; split at h4 <;> first | (cases h4; done) | skip; split at h4 <;> first | (cases h4; done) | skip; split at h4 <;> first | (cases h4; done) | skip; simp only [Option.some.injEq, Prod.mk.injEq] at h4; obtain ⟨_, _, rfl⟩ := h4; cases q5
            | deck v =>
              unfold entB at h4; simp only [hf] at h4
              split at h4 <;> first | (cases h4; done) | skip
              split at h4 <;> first | (cases h4; done) | skip
              all_goals (split at h4 <;> first | (cases h4; done) | skip; simp only [Option.some.injEq, Prod.mk.injEq] at h4; obtain ⟨_, _, rfl⟩ := h4; cases q5)
            | mp es =>
              unfold entB at h4; simp only [hf] at h4
              split at h4 <;> first | (cases h4; done) | skip
              simp only [Option.some.injEq, Prod.mk.injEq] at h4; obtain ⟨_, _, rfl⟩ := h4; cases q5
            | dead => rw [contB_dead] at h2; cases h2
            | hole _ _ _ => unfold entB at h4; cases h4
            | list md cc ll =>
              have h7' := h7
              unfold entB at h4
              simp only [hf] at h4
              split at h4 <;> first | (cases h4; done) | skip
              rename_i m' c0 l0 hs
              split at h4 <;> first | (cases h4; done) | skip
              rename_i l'' o1 hcst hle
              have fin : l'' = ll → AllP o1 → (kindB b = md.at r.p) → ∃ c', cont s.mem ⟨k', r.p⟩ = some c' ∧ liveB (V ⟨k', r.p⟩) c' ∧ (kindB c').le (kindB b) := by
                intro e ho1 hk
                subst e
                have he := castL_eq hcst
                cases he
                simp only [contB] at h2
                split at h2
                · rename_i c2 l2 hd
                  cases h2
                  have hcc : cont s.mem ⟨k', r.p⟩ = some (.list (m'.at r.p) c2 l2) := cont_iff.2 ⟨_, hs, by simp only [contB, hd]⟩
                  refine ⟨_, hcc, ?_, leMO_le hle ho1 (fun i j q hp => by rw [hp] at hd; exact desc_ok hd)⟩
                  have hcap := (hE.at_ _ _ hcc).2.1
                  have e1 : σ.vl V r = V ⟨k', r.p⟩ := by simp only [Sg.vl, hf]
                  rw [e1] at hl
                  have hnn : l2 ≠ [] := by
                    cases hmd : md.at r.p with
                    | own => exact absurd hmd q0
                    | fz => rw [hmd] at hl; exact hl
                    | tmp => rw [hmd] at hl; exact hl
                  have hpos := List.length_pos_iff.2 hnn
                  cases m'.at r.p with
                  | own => simp only [liveB]; omega
                  | fz => exact hnn
                  | tmp => exact hnn
                · cases h2
              have hkb : kindB b = md.at r.p := by
                simp only [contB] at h2
                split at h2
                · cases h2; rfl
                · cases h2
              have hoo := memB_get hm ho r.k _ h1
              obtain ⟨_, o', a', b'', y2, y3, _⟩ := hoo
              have hll : l'' = ll ∧ AllP o1 := by
                unfold entB at y2
                simp only [hf, hs, hcst, hle] at y2
                cases md <;> simp only [Option.some.injEq, Prod.mk.injEq] at y2 <;> obtain ⟨rfl, _, _⟩ := y2 <;> exact ⟨y3.1.symm, y3.2⟩
              cases md <;> simp only [Option.some.injEq, Prod.mk.injEq] at h4 <;> obtain ⟨rfl, rfl, rfl⟩ := h4
              · cases q5
              · cases q5
              · exact ⟨rfl, fin hll.1 hll.2 hkb⟩
              · exact ⟨rfl, fin hll.1 hll.2 hkb⟩
              · cases q5
          obtain ⟨rfl, c', z1, z2, z3⟩ := hm2
          exact ⟨⟨k', r.p⟩, c', by simp only [src, hf], z1, z2, by simp only [Sg.vl, hf], z3, .inr ⟨q0, h6 k' (List.mem_singleton_self _)⟩⟩
  refine ⟨hE.re (s' := ⟨e, tm, nb⟩) (fun k m hk => ?_) src (fun r b hc hl => ?_) (fun r1 r2 b1 b2 c1 c2 l1 l2 hk he => ?_) (fun r b hc => ?_) (fun b hb => ⟨hb, hD b hb⟩), fun b hb => ?_, fun hst r b hc hl hk hd => ?_⟩
  · obtain ⟨g1, o, a, b1, g2, g3, _, _⟩ := memB_get hm ho k m hk
    exact ⟨g1, (entB_ok hE g2 g3).okm⟩
  · obtain ⟨r0, c, y1, y2, y3, y4, y5, _⟩ := srcE r b hc hl
    exact .inr ⟨r0, c, y1, y2, y3, y4, y5⟩
  · obtain ⟨a1, x1, y1, y2, y3, y4, y5, y6⟩ := srcE r1 b1 c1 l1
    obtain ⟨a2, x2, z1, z2, z3, z4, z5, z6⟩ := srcE r2 b2 c2 l2
    rw [y1, z1] at he
    cases he
    rcases y6 with ⟨m1, o1, d1, p1, p2, p3, p4⟩ | ⟨h, _⟩
    · rcases z6 with ⟨m2, o2, d2, q1, q2, q3, q4⟩ | ⟨_, h⟩
      · have := memB_inj hm hn r1.k r2.k m1 m2 o1 o2 d1 d2 a1.k p1 q1 p2 q2
        obtain ⟨k1, pp1⟩ := r1
        obtain ⟨k2, pp2⟩ := r2
        simp only at this p4 q4
        subst this
        rw [← p4, ← q4]
      · exact absurd p3 (noneIn_spec hni _ h)
    · exact absurd hk h
  · obtain ⟨m, o, a, b1, h1, h2, h3, h4, h5, h6, h7⟩ := ent r b hc
    exact h7.at_ r.p b h2
  · obtain ⟨r, y, hc, hl, hk, rfl⟩ := hb
    obtain ⟨r0, c, y1, y2, y3, y4, y5, y6⟩ := srcE r y hc hl
    refine ⟨r0, c, y2, y3, ?_, y4.symm, ?_⟩
    rotate_left 1
    · rcases y6 with ⟨_, _, _, _, _, h, _⟩ | ⟨h, _⟩
      · exact h
      · exact absurd hk h
    rw [hk] at y5
    cases hkc : kindB c with
    | own => rfl
    | fz => rw [hkc] at y5; exact y5.elim
    | tmp => rw [hkc] at y5; exact y5.elim
  · obtain ⟨m, o, a, b1, h1, h2, h3, h4, h5, h6, h7⟩ := ent r b hc
    obtain ⟨r0, c, y1, y2, y3, y4⟩ := h7.fz hst r.p b h2 hl hk
    obtain ⟨r1, c1, z1, z2, z3, z4⟩ := hd
    have := hE.sep r1 r0 c1 c z1 y1 z2 y2 z3 (by rw [z4]; exact y3)
    subst this
    rw [y1] at z1
    cases z1
    exact y4 z3
theorem heapB_ok {D0 : Nat → Prop} {st : Bool} {σ : Sg} {V : Vl} {s : St} {w : World} (hE : Ents D0 V s w) {e : List (Nat × SV)} {tm : List (Nat × MB)} {nb : Nat} {obs : List Prop} (h : heapB st σ nb s tm = some obs) (ho : AllP obs) (hD : ∀ b, D0 b → b < w.heap.size) :
    Ents D0 (σ.vl V) ⟨e, tm, nb⟩ w ∧ (∀ b, Dl (σ.vl V) tm b → Dl V s.mem b) ∧ (st = true → ∀ r b, cont tm r = some b → liveB (σ.vl V r) b → kindB b = .fz → ¬ Dl V s.mem (σ.vl V r).b) := by
  unfold heapB at h
  split at h
  · rename_i obs' owns reads hm
    split at h
    · rename_i hn hni
      cases h
      obtain ⟨h1, h2, h3⟩ := memB_ok (e := e) hE hm hn hni ho hD
      exact ⟨h1, fun b hb => by obtain ⟨r, c, y1, y2, y3, y4, _⟩ := h2 b hb; exact ⟨r, c, y1, y2, y3, y4⟩, h3⟩
    · cases h
  · cases h
end Go.Proofs.Ytkageldgmkajbaa
namespace Go.Proofs.Ytkageldgmkajbaa
open Go.RowKit
universe u
def mt2 {β : Type u} (f : SV → SV → Sg → (Sg → β) → β) : List SV → List SV → Sg → (Sg → β) → β
  | a :: l, b :: m, σ, g => f a b σ fun σ => mt2 f l m σ g
  | _, _, σ, g => g σ
def mtV {β : Type u} (tm sm : List (Nat × MB)) : Nat → SV → SV → Sg → (Sg → β) → β
  | 0, _, _, σ, g => g σ
  | n + 1, a, b, σ, g =>
    let root := fun (k k' : Nat) => match find σ k with
      | some _ => g σ
      | none => match find tm k, find sm k' with
        | some (.cells c), some (.cells c') => mt2 (mtV tm sm n) c c' ((k, .root k') :: σ) g
        | some (.deck v), some (.deck v') => mtV tm sm n v v' ((k, .root k') :: σ) g
        | some (.deck v), some (.cells (w :: _)) => mtV tm sm n v w ((k, .root k') :: σ) g
        | _, _ => g ((k, .root k') :: σ)
    match a, b with
    | .ptr k _, .ptr k' _ => root k k'
    | .slc k _ _ _, .slc k' _ _ _ => root k k'
    | .el ⟨k, _⟩ _ _ _, .el ⟨k', _⟩ _ _ _ => root k k'
    | .vw ⟨k, _⟩ _ _ _ _, .vw ⟨k', _⟩ _ _ _ _ => root k k'
    | .mp k, .mp k' => root k k'
    | .sl ⟨k, []⟩, v => match find σ k with
      | some _ => g σ
      | none => match find tm k with
        | some (.list m _ _) => match m, v with
          | .own, .sl ⟨k', []⟩ => g ((k, .root k') :: σ)
          | .sh, .sl ⟨k', []⟩ => g ((k, .root k') :: σ)
          | .pt _ _, .sl ⟨k', []⟩ => g ((k, .root k') :: σ)
          | .own, _ => g σ
          | .sh, _ => g σ
          | .pt _ _, _ => g σ
          | .fz, .sl ⟨k', []⟩ => match find sm k' with
            | some (.list .own _ _) => g ((k, .root k') :: σ)
            | some (.list .sh _ _) => g ((k, .root k') :: σ)
            | _ => match Nat.beq k k' with
              | true => g ((k, .root k') :: σ)
              | false => g ((k, .rd (.sl ⟨k', []⟩)) :: σ)
          | _, .sl ⟨k', []⟩ => match Nat.beq k k' with
            | true => g ((k, .root k') :: σ)
            | false => g ((k, .rd (.sl ⟨k', []⟩)) :: σ)
          | _, v => g ((k, .rd v) :: σ)
        | _ => g σ
    | .sl ⟨k, _ :: _⟩, .sl ⟨k', _⟩ => root k k'
    | .clo _ l, .clo _ l' => mt2 (mtV tm sm n) l l' σ g
    | .agg l, .agg l' => mt2 (mtV tm sm n) l l' σ g
    | .tup l, .tup l' => mt2 (mtV tm sm n) l l' σ g
    | _, _ => g σ
def mtE {β : Type u} (tm sm : List (Nat × MB)) (e : List (Nat × SV)) : List (Nat × SV) → Sg → (Sg → β) → β
  | [], σ, g => g σ
  | (t, a) :: l, σ, g => match find e t with
    | some b => mtV tm sm 12 a b σ fun σ => mtE tm sm e l σ g
    | none => g σ
def mtP {β : Type u} (tm sm : List (Nat × MB)) : Nat → Sg → (Sg → β) → β
  | 0, σ, g => g σ
  | k + 1, σ, g => mtP tm sm k σ fun σ => match find σ k with
    | some _ => g σ
    | none => match find tm k, find sm k with
      | some (.cells c), some (.cells c') => mt2 (mtV tm sm 12) c c' ((k, .root k) :: σ) g
      | some (.deck v), some (.deck v') => mtV tm sm 12 v v' ((k, .root k) :: σ) g
      | some (.deck v), some (.cells (w :: _)) => mtV tm sm 12 v w ((k, .root k) :: σ) g
      | _, _ => g ((k, .root k) :: σ)
def convT (tm : List (Nat × MB)) (t : Nat) : Nat → List SV → St → List Prop → Option (St × List Prop)
  | _, [], s, obs => some (s, obs)
  | j, v :: l, s, obs => match v with
    | .sl ⟨k, []⟩ => match find tm k with
      | some (.list m c _) => match m with
        | .fz => convT tm t (j + 1) l s obs
        | .tmp => convT tm t (j + 1) l s obs
        | _ => match find s.env t with
          | some u => match memL u with
            | some (_, cs) => match nthC cs j with
              | some (.sl ⟨_, []⟩) => convT tm t (j + 1) l s obs
              | _ => match ownT s t j c with
                | some (s', o) => convT tm t (j + 1) l s' (app o obs)
                | none => none
            | none => convT tm t (j + 1) l s obs
          | none => convT tm t (j + 1) l s obs
      | _ => convT tm t (j + 1) l s obs
    | _ => convT tm t (j + 1) l s obs
theorem convT_ok {x : Cx} {tm : List (Nat × MB)} {t : Nat} : ∀ {l : List SV} {j : Nat} {s s' : St} {obs obs' : List Prop}, convT tm t j l s obs = some (s', obs') → AllP obs' → AllP obs ∧ Toward x s s'
  | [], j, s, s', obs, obs', h, ho => by simp only [convT, Option.some.injEq, Prod.mk.injEq] at h; obtain ⟨rfl, rfl⟩ := h; exact ⟨ho, Toward.refl⟩
  | v :: l, j, s, s', obs, obs', h, ho => by
    unfold convT at h
    split at h
    · split at h
      · split at h
        · exact convT_ok h ho
        · exact convT_ok h ho
        · split at h
          · split at h
            · split at h
              · exact convT_ok h ho
              · split at h
                · rename_i s1 o h1
                  obtain ⟨h2, h3⟩ := convT_ok (x := x) h ho
                  obtain ⟨h4, h5⟩ := AllP_app.1 h2
                  exact ⟨h5, (ownT_ok h1 h4).trans h3⟩
                · cases h
            · exact convT_ok h ho
          · exact convT_ok h ho
      · exact convT_ok h ho
    · exact convT_ok h ho
def convE (tm : List (Nat × MB)) : List (Nat × SV) → St → List Prop → Option (St × List Prop)
  | [], s, obs => some (s, obs)
  | (t, v) :: l, s, obs => match v with
    | .sl ⟨k, []⟩ => match find tm k with
      | some (.list m c _) => match m with
        | .fz => convE tm l s obs
        | .tmp => convE tm l s obs
        | _ => match find s.env t with
          | some (.sl ⟨_, []⟩) => convE tm l s obs
          | _ => match ownE s t c with
            | some (s', o) => convE tm l s' (app o obs)
            | none => none
      | _ => convE tm l s obs
    | .tup vs => match convT tm t 0 vs s obs with
      | some (s', obs') => convE tm l s' obs'
      | none => none
    | .agg vs => match convT tm t 0 vs s obs with
      | some (s', obs') => convE tm l s' obs'
      | none => none
    | _ => convE tm l s obs
def convC (tm : List (Nat × MB)) (k' : Nat) : Nat → List SV → St → List Prop → Option (St × List Prop)
  | _, [], s, obs => some (s, obs)
  | j, v :: l, s, obs => match v with
    | .sl ⟨k, []⟩ => match find tm k with
      | some (.list m c _) => match m with
        | .fz => convC tm k' (j + 1) l s obs
        | .tmp => convC tm k' (j + 1) l s obs
        | _ => match find s.mem k' with
          | some (.cells cs) => match nthC cs j with
            | some (.sl ⟨_, []⟩) => convC tm k' (j + 1) l s obs
            | _ => match ownC s k' j c with
              | some (s', o) => convC tm k' (j + 1) l s' (app o obs)
              | none => none
          | _ => none
      | _ => convC tm k' (j + 1) l s obs
    | _ => convC tm k' (j + 1) l s obs
def convP (tm : List (Nat × MB)) : List (Nat × SV) → St → List Prop → Option (St × List Prop)
  | [], s, obs => some (s, obs)
  | (t, v) :: l, s, obs => match v, find s.env t with
    | .ptr k _, some (.ptr k' _) => match find tm k with
      | some (.cells c) => match convC tm k' 0 c s obs with
        | some (s', obs') => convP tm l s' obs'
        | none => none
      | _ => convP tm l s obs
    | _, _ => convP tm l s obs
def convK (tm : List (Nat × MB)) : Nat → St → List Prop → Option (St × List Prop)
  | 0, s, obs => some (s, obs)
  | k + 1, s, obs => match convK tm k s obs with
    | some (s', obs') => match find tm k with
      | some (.cells c) => convC tm k 0 c s' obs'
      | _ => some (s', obs')
    | none => none
theorem convE_ok {x : Cx} {tm : List (Nat × MB)} : ∀ {l : List (Nat × SV)} {s s' : St} {obs obs' : List Prop}, convE tm l s obs = some (s', obs') → AllP obs' → AllP obs ∧ Toward x s s'
  | [], s, s', obs, obs', h, ho => by simp only [convE, Option.some.injEq, Prod.mk.injEq] at h; obtain ⟨rfl, rfl⟩ := h; exact ⟨ho, Toward.refl⟩
  | (t, v) :: l, s, s', obs, obs', h, ho => by
    unfold convE at h
    split at h
    · split at h
      · split at h
        · exact convE_ok h ho
        · exact convE_ok h ho
        · split at h
          · exact convE_ok h ho
          · split at h
            · rename_i s1 o h1
              obtain ⟨h2, h3⟩ := convE_ok (x := x) h ho
              obtain ⟨h4, h5⟩ := AllP_app.1 h2
              exact ⟨h5, (ownE_ok h1 h4).trans h3⟩
            · cases h
      · exact convE_ok h ho
    · split at h
      · rename_i s1 o1 h1
        obtain ⟨h2, h3⟩ := convE_ok (x := x) h ho
        obtain ⟨h4, h5⟩ := convT_ok (x := x) h1 h2
        exact ⟨h4, h5.trans h3⟩
      · cases h
    · split at h
      · rename_i s1 o1 h1
        obtain ⟨h2, h3⟩ := convE_ok (x := x) h ho
        obtain ⟨h4, h5⟩ := convT_ok (x := x) h1 h2
        exact ⟨h4, h5.trans h3⟩
      · cases h
    · exact convE_ok h ho
theorem convC_ok {x : Cx} {tm : List (Nat × MB)} {k' : Nat} : ∀ {l : List SV} {j : Nat} {s s' : St} {obs obs' : List Prop}, convC tm k' j l s obs = some (s', obs') → AllP obs' → AllP obs ∧ Toward x s s'
  | [], j, s, s', obs, obs', h, ho => by simp only [convC, Option.some.injEq, Prod.mk.injEq] at h; obtain ⟨rfl, rfl⟩ := h; exact ⟨ho, Toward.refl⟩
  | v :: l, j, s, s', obs, obs', h, ho => by
    unfold convC at h
    split at h
    · split at h
      · split at h
        · exact convC_ok h ho
        · exact convC_ok h ho
        · split at h
          · split at h
            · exact convC_ok h ho
            · split at h
              · rename_i s1 o h1
                obtain ⟨h2, h3⟩ := convC_ok (x := x) h ho
                obtain ⟨h4, h5⟩ := AllP_app.1 h2
                exact ⟨h5, (ownC_ok h1 h4).trans h3⟩
              · cases h
          · cases h
      · exact convC_ok h ho
    · exact convC_ok h ho
theorem convP_ok {x : Cx} {tm : List (Nat × MB)} : ∀ {l : List (Nat × SV)} {s s' : St} {obs obs' : List Prop}, convP tm l s obs = some (s', obs') → AllP obs' → AllP obs ∧ Toward x s s'
  | [], s, s', obs, obs', h, ho => by simp only [convP, Option.some.injEq, Prod.mk.injEq] at h; obtain ⟨rfl, rfl⟩ := h; exact ⟨ho, Toward.refl⟩
  | (t, v) :: l, s, s', obs, obs', h, ho => by
    unfold convP at h
    split at h
    · split at h
      · split at h
        · rename_i s1 o1 h1
          obtain ⟨h2, h3⟩ := convP_ok (x := x) h ho
          obtain ⟨h4, h5⟩ := convC_ok (x := x) h1 h2
          exact ⟨h4, h5.trans h3⟩
        · cases h
      · exact convP_ok h ho
    · exact convP_ok h ho
theorem convK_ok {x : Cx} {tm : List (Nat × MB)} : ∀ {k : Nat} {s s' : St} {obs obs' : List Prop}, convK tm k s obs = some (s', obs') → AllP obs' → AllP obs ∧ Toward x s s'
  | 0, s, s', obs, obs', h, ho => by simp only [convK, Option.some.injEq, Prod.mk.injEq] at h; obtain ⟨rfl, rfl⟩ := h; exact ⟨ho, Toward.refl⟩
  | k + 1, s, s', obs, obs', h, ho => by
    unfold convK at h
    split at h
    · rename_i s1 o1 h1
      split at h
      · obtain ⟨h2, h3⟩ := convC_ok (x := x) h ho
        obtain ⟨h4, h5⟩ := convK_ok (x := x) h1 h2
        exact ⟨h4, h5.trans h3⟩
      · simp only [Option.some.injEq, Prod.mk.injEq] at h
        obtain ⟨rfl, rfl⟩ := h
        exact convK_ok h1 ho
    · cases h
def pinB (σ : Sg) (nb : Nat) : Nat → Bool
  | 0 => true
  | k + 1 => match Nat.blt k nb, find σ k with
    | true, some (.root k') => match Nat.beq k' k with
      | true => pinB σ nb k
      | false => false
    | _, _ => false
theorem pinB_spec {σ : Sg} {nb : Nat} : ∀ {n : Nat}, pinB σ nb n = true → n ≤ nb ∧ ∀ k, k < n → find σ k = some (.root k)
  | 0, _ => ⟨Nat.zero_le _, fun k h => absurd h (Nat.not_lt_zero _)⟩
  | n + 1, h => by
    unfold pinB at h
    split at h
    · rename_i k' h1 h2
      split at h
      · rename_i h3
        obtain ⟨g1, g2⟩ := pinB_spec h
        have h1' : n < nb := by simpa [Nat.blt_eq] using h1
        refine ⟨h1', fun k hk => ?_⟩
        rcases Nat.lt_succ_iff_lt_or_eq.1 hk with h | rfl
        · exact g2 k h
        · rw [h2, Nat.eq_of_beq_eq_true h3]
      · cases h
    · cases h
def subO (kb : Nat) (σ : Sg) (t s : St) : Option (List Prop) := match pinB σ t.nb kb, envB σ t.nb s.env t.env, heapB false σ t.nb s t.mem with
  | true, some a, some b => some (app a b)
  | _, _, _ => none
theorem subO_ok {x : Cx} {σ : Sg} {t s : St} {obs : List Prop} (h : subO x.kb σ t s = some obs) (ho : AllP obs) : Toward x s t := by
  refine ⟨fun g V a w hr => ?_⟩
  unfold subO at h
  split at h
  · rename_i oa ob hp he hm
    cases h
    obtain ⟨o1, o2⟩ := AllP_app.1 ho
    obtain ⟨p1, p2⟩ := pinB_spec hp
    obtain ⟨tenv, tmem, tnb⟩ := t
    obtain ⟨g1, g2, _⟩ := heapB_ok (e := tenv) hr.ents hm o2 hr.d0w
    refine ⟨σ.vl V, hr.defers, hr.size, fun k v hk => ?_, fun k v hk => (envB_get he o1 k v hk).1, g1, hr.frame, fun b hb => hr.own b (g2 b hb), ⟨p1, fun r hrk => ?_⟩, hr.d0⟩
    · obtain ⟨_, u, v', o, q1, q2, q3, q4⟩ := envB_get he o1 k v hk
      rw [hr.env k u q1, ren_den V q2, eqS_den V q3 q4]
    · rw [← hr.pin.2 r hrk]
      simp only [Sg.vl, p2 r.k hrk]
  · cases h
def subR (kb : Nat) (t s : St) : Option (List Prop) := match convE t.mem t.env s [] with
  | some (s1, o1) => match convP t.mem t.env s1 o1 with
    | some (s2, o2) => match convK t.mem kb s2 o2 with
      | some (s3, o3) => mtP t.mem s3.mem kb [] fun σ => mtE t.mem s3.mem s3.env t.env σ fun σ => match subO kb σ t s3 with
        | some obs => some (app obs o3)
        | none => none
      | none => none
    | none => none
  | none => none
def HoldsO : Option (List Prop) → Prop
  | some l => AllP l
  | none => False
def SubG (kb : Nat) (t s : St) : Prop := HoldsO (subR kb t s)
theorem mt2_ok {β : Type u} {f : SV → SV → Sg → (Sg → β) → β} {P : β → Prop} (hf : ∀ a b σ g, P (f a b σ g) → ∃ σ', P (g σ')) : ∀ {l m : List SV} {σ : Sg} {g : Sg → β}, P (mt2 f l m σ g) → ∃ σ', P (g σ')
  | [], m, σ, g, h => by unfold mt2 at h; exact ⟨σ, h⟩
  | a :: l, [], σ, g, h => by unfold mt2 at h; exact ⟨σ, h⟩
  | a :: l, b :: m, σ, g, h => by
    unfold mt2 at h
    obtain ⟨σ', h'⟩ := hf _ _ _ _ h
    exact mt2_ok hf h'
theorem mtV_ok {β : Type u} {tm sm : List (Nat × MB)} {P : β → Prop} : ∀ {n : Nat} {a b : SV} {σ : Sg} {g : Sg → β}, P (mtV tm sm n a b σ g) → ∃ σ', P (g σ')
  | 0, a, b, σ, g, h => ⟨σ, h⟩
  | n + 1, a, b, σ, g, h => by
    have root : ∀ (k k' : Nat), P (match find σ k with
      | some _ => g σ
      | none => match find tm k, find sm k' with
        | some (.cells c), some (.cells c') => mt2 (mtV tm sm n) c c' ((k, .root k') :: σ) g
        | some (.deck v), some (.deck v') => mtV tm sm n v v' ((k, .root k') :: σ) g
        | some (.deck v), some (.cells (w :: _)) => mtV tm sm n v w ((k, .root k') :: σ) g
        | _, _ => g ((k, .root k') :: σ)) → ∃ σ', P (g σ') := by
      intro k k' h
      split at h
      · exact ⟨_, h⟩
      · split at h
        · exact mt2_ok (fun a b σ g h => mtV_ok h) h
        · exact mtV_ok h
        · exact mtV_ok h
        · exact ⟨_, h⟩
    unfold mtV at h
    simp only at h
    split at h
    · exact root _ _ h
    · exact root _ _ h
    · exact root _ _ h
    · exact root _ _ h
    · exact root _ _ h
    · split at h
      · exact ⟨_, h⟩
      · split at h
        · split at h <;> first | exact ⟨_, h⟩ | (split at h <;> first | exact ⟨_, h⟩ | (split at h <;> exact ⟨_, h⟩))
        · exact ⟨_, h⟩
    · exact root _ _ h
    · exact mt2_ok (fun a b σ g h => mtV_ok h) h
    · exact mt2_ok (fun a b σ g h => mtV_ok h) h
    · exact mt2_ok (fun a b σ g h => mtV_ok h) h
    · exact ⟨_, h⟩
theorem mtE_ok {β : Type u} {tm sm : List (Nat × MB)} {e : List (Nat × SV)} {P : β → Prop} : ∀ {l : List (Nat × SV)} {σ : Sg} {g : Sg → β}, P (mtE tm sm e l σ g) → ∃ σ', P (g σ')
  | [], σ, g, h => ⟨σ, h⟩
  | (t, a) :: l, σ, g, h => by
    unfold mtE at h
    split at h
    · obtain ⟨σ', h'⟩ := mtV_ok (P := P) h
      exact mtE_ok h'
    · exact ⟨σ, h⟩
theorem mtP_ok {β : Type u} {tm sm : List (Nat × MB)} {P : β → Prop} : ∀ {k : Nat} {σ : Sg} {g : Sg → β}, P (mtP tm sm k σ g) → ∃ σ', P (g σ')
  | 0, σ, g, h => ⟨σ, h⟩
  | k + 1, σ, g, h => by
    unfold mtP at h
    obtain ⟨σ', h'⟩ := mtP_ok (P := P) h
    split at h'
    · exact ⟨_, h'⟩
    · split at h'
      · exact mt2_ok (fun a b σ g h => mtV_ok h) h'
      · exact mtV_ok (P := P) h'
      · exact mtV_ok (P := P) h'
      · exact ⟨_, h'⟩
theorem SubG_ok {x : Cx} {t s : St} (h : SubG x.kb t s) : Toward x s t := by
  unfold SubG subR at h
  split at h
  · rename_i s1 o1 h1
    split at h
    · rename_i s2 o2 h2
      split at h
      · rename_i s3 o3 h3
        obtain ⟨σ, h'⟩ := mtP_ok (P := HoldsO) h
        obtain ⟨σ', h''⟩ := mtE_ok (P := HoldsO) h'
        split at h''
        · rename_i obs hs
          obtain ⟨q1, q2⟩ := AllP_app.1 (show AllP (app obs o3) from h'')
          obtain ⟨r1, r2⟩ := convK_ok (x := x) h3 q2
          obtain ⟨r3, r4⟩ := convP_ok (x := x) h2 r1
          obtain ⟨_, r6⟩ := convE_ok (x := x) h1 r3
          exact ((r6.trans r4).trans r2).trans (subO_ok hs q1)
        · exact h''.elim
      · exact h.elim
    · exact h.elim
  · exact h.elim
theorem tr_loop {x : Cx} {c : Code} {Q : Exit → St → Prop} {s : St} {Z : Type} (I : Z → Prop) (st : Z → St) (m : Z → Nat) (h0 : ∃ z, I z ∧ Toward x s (st z))
    (round : ∀ y, I y → Tr x c (thenS (fun s' => ∃ z, I z ∧ m z < m y ∧ Toward x s' (st z)) Q) (st y)) : Tr x (.loop c) Q s :=
  ⟨fun g V a w hr => by
    obtain ⟨z0, hz0, hs0⟩ := h0
    obtain ⟨V0, hr0⟩ := hs0.run g V a w hr
    have key : ∀ n y, m y = n → I y → ∀ V a w, Rep x g V (st y) a w → ∀ (b : Frame) (k : List Item) (cs : List Frame),
        ∃ e a' w', QR x g Q e a' w' ∧ Arrives x.P (lone (b.at a (.code c :: .inLoop c :: k)) cs w) b k cs e a' w' := by
      intro n
      induction n using Nat.strongRecOn with
      | _ n ih =>
        intro y hn hI V a w hr b k cs
        obtain ⟨e, a1, w1, ⟨s1, V1, hq, hr1⟩, harr⟩ := (round y hI).run g V a w hr b (.inLoop c :: k) cs
        cases e with
        | normal =>
          obtain ⟨z, hz, hlt, hsub⟩ := hq
          obtain ⟨V2, hr2⟩ := hsub.run g V1 a1 w1 hr1
          obtain ⟨e2, a2, w2, hq2, harr2⟩ := ih (m z) (hn ▸ hlt) z rfl hz _ a1 w1 hr2 b k cs
          exact ⟨e2, a2, w2, hq2, .of_steps (Steps.trans harr (.one step_inLoop)) harr2⟩
        | exit id => exact ⟨_, a1, w1, ⟨s1, V1, hq, hr1⟩, .pass (x := .inLoop c) rfl (fun _ _ => .inl (by simp)) harr⟩
        | goto l => exact ⟨_, a1, w1, ⟨s1, V1, hq, hr1⟩, .pass (x := .inLoop c) rfl (fun _ _ => .inl (by simp)) harr⟩
        | ret => exact ⟨_, a1, w1, ⟨s1, V1, hq, hr1⟩, .pass (x := .inLoop c) rfl (fun _ _ => .inl (by simp)) harr⟩
        | panic ch => exact ⟨_, a1, w1, ⟨s1, V1, hq, hr1⟩, .pass (x := .inLoop c) rfl (fun _ _ => .inl (by simp)) harr⟩
        | outgrown => exact ⟨_, a1, w1, ⟨s1, V1, hq, hr1⟩, .pass (x := .inLoop c) rfl (fun _ _ => .inl (by simp)) harr⟩
    intro b k cs
    obtain ⟨e, a', w', hq, harr⟩ := key _ z0 rfl hz0 _ a w hr0 b k cs
    exact ⟨e, a', w', hq, .of_steps (.one step_loop) harr⟩⟩
theorem go_loop {x : Cx} (n : Nat) {c : Code} {K : List Kf} {Q : Exit → St → Prop} {s : St} {Z : Type} (I : Z → Prop) (st : Z → St) (m : Z → Nat) (hL : LayOk x.P x.L) (h0 : ∃ z, I z ∧ SubG x.kb (st z) s)
    (round : ∀ y, I y → Good x (thenS (fun s' => ∃ z, I z ∧ m z < m y ∧ SubG x.kb (st z) s') (QK x K Q)) (run x n [] (.code c) [] (st y))) : TrM x Q (.code (.loop c)) K s := by
  obtain ⟨z, hz, hs⟩ := h0
  refine tr_loop I st m ⟨z, hz, SubG_ok hs⟩ fun y hy => ?_
  have := (run_ok hL (round y hy)).2
  refine this.mono fun e s' hq => ?_
  cases e <;> first | exact hq | skip
  obtain ⟨z, h1, h2, h3⟩ := hq
  exact ⟨z, h1, h2, SubG_ok h3⟩
end Go.Proofs.Ytkageldgmkajbaa
namespace Go.Proofs.Ytkageldgmkajbaa
open Go.RowKit
def resO (x : Cx) (s : St) : ResultVar → Option SV
  | .tmp t => find s.env t
  | .cell t ty => match find s.env t with
    | some (.ptr k o) => match find x.L ty, find s.mem k with
      | some ti, some (.cells c) => loadC ti c o
      | _, _ => none
    | _ => none
def resOs (x : Cx) (s : St) : List ResultVar → Option (List SV)
  | [] => some []
  | v :: l => match resO x s v, resOs x s l with
    | some u, some r => some (u :: r)
    | _, _ => none
def getRes (tmps : Array Value) (rv : ResultVar) : Sem Value :=
  match rv with
  | .tmp t => pure (tmps.getD t Go.undef)
  | .cell p t => do loadVar t (← asAddr (tmps.getD p Go.undef))
theorem resO_run {x : Cx} (hL : LayOk x.P x.L) {s : St} {rv : ResultVar} {v : SV} (h : resO x s rv = some v) {g : Gx} {V : Vl} {a : Act} {w : World} (hr : Rep x g V s a w) : (getRes a.tmps rv).run x.P w = .ok (den V v) w := by
  cases rv with
  | tmp t => simp only [getRes, hr.env t v h, Sem.run_pure]
  | cell t ty =>
    simp only [resO] at h
    split at h
    · rename_i k o hp
      split at h
      · rename_i ti c ht hm
        obtain ⟨b, tt, h1, h2⟩ := hr.ents.at_ ⟨k, []⟩ (.cells c) (cont_iff.2 ⟨_, hm, rfl⟩)
        have hc : ∀ j u, c[j]? = some u → w.cell? ⟨b, j, none⟩ = some (den V u) := fun j u hu => cell_of h2 (by simpa using denL_get V hu)
        simp only [getRes, hr.env t _ hp, den, Loc.at, h1, Option.map_some, Nat.zero_add, asAddr, Sem.run_bind, Sem.run_pure, Result.andThen_ok]
        have hv := loadC_eq h
        cases hg : ti.td.agg with
        | false =>
          simp only [hg] at hv
          rw [nthC_eq] at hv
          exact r_loadVar_one (hL.at ht) hg (hc o v hv)
        | true =>
          simp only [hg] at hv
          obtain ⟨l, hl, rfl⟩ := Option.map_eq_some_iff.1 hv
          obtain ⟨q1, q2⟩ := takeC_eq _ _ hl
          rw [dropC_eq] at q1 q2
          refine r_loadVar_agg (hL.at ht) hg (by rw [denL_length, q2]; simp at q1 ⊢; omega) (fun j u hj => ?_)
          rw [Addr.add_mid]
          rw [denL_get', q2, List.getElem?_take] at hj
          split at hj
          · rw [List.getElem?_drop] at hj
            obtain ⟨y, hy, rfl⟩ := Option.map_eq_some_iff.1 hj
            exact hc (o + j) y hy
          · simp at hj
      · cases h
    · cases h
theorem resOs_run {x : Cx} (hL : LayOk x.P x.L) {s : St} {g : Gx} {V : Vl} {a : Act} {w : World} (hr : Rep x g V s a w) : ∀ {rs : List ResultVar} {l : List SV}, resOs x s rs = some l → (rs.mapM (getRes a.tmps)).run x.P w = .ok (denL V l) w
  | [], l, h => by simp only [resOs, Option.some.injEq] at h; subst h; rfl
  | v :: rs, l, h => by
    unfold resOs at h
    cases h1 : resO x s v with
    | none => simp [h1] at h
    | some u =>
      cases h2 : resOs x s rs with
      | none => simp [h1, h2] at h
      | some r =>
        simp only [h1, h2, Option.some.injEq] at h
        subst h
        simp only [List.mapM_cons, Sem.run_bind, resO_run hL h1 hr, Result.andThen_ok, resOs_run hL hr h2, Sem.run_pure, denL]
def pack : List SV → SV
  | [v] => v
  | [] => .tup []
  | a :: b :: l => .tup (a :: b :: l)
def endS (x : Cx) (rs : List ResultVar) (K : SV → St → Prop) : Exit → St → Prop
  | .normal, s => match resOs x s rs with
    | some l => plL l fun l => match okL s.nb l with
      | true => K (pack l) s
      | false => False
    | none => False
  | .ret, s => match resOs x s rs with
    | some l => plL l fun l => match okL s.nb l with
      | true => K (pack l) s
      | false => False
    | none => False
  | _, _ => False
theorem pack_ok {nb : Nat} {l : List SV} (h : okL nb l = true) : okV nb (pack l) = true := by
  match l, h with
  | [], h => rfl
  | [v], h => exact (okL_iff nb [v]).1 h v (List.mem_singleton_self _)
  | a :: b :: l, h => exact h
theorem endS_sound {x : Cx} (hL : LayOk x.P x.L) {fn : Func} {rs : List ResultVar} (hrs : fn.results = rs.toArray) {K : SV → St → Prop} {R : Ending → World → Prop} {g : Gx}
    (hR : ∀ V s a w v, K v s → okV s.nb v = true → Rep x g V s a w → R (.returned (den V v)) w) : ∀ e a w, QR x g (endS x rs K) e a w → bodyPost x.P fn R e a w := by
  have key : ∀ s V a w, (match resOs x s rs with | some l => plL l fun l => (match okL s.nb l with | true => K (pack l) s | false => False) | none => False) → Rep x g V s a w → a.defers = [] ∧ ∃ v, (results fn a.tmps).run x.P w = .ok v w ∧ R (.returned v) w := by
    intro s V a w hK hr
    split at hK
    · rename_i l hl
      rw [plL_eq] at hK
      have hok : okL s.nb l = true := by
        split at hK
        · assumption
        · exact hK.elim
      simp only [hok] at hK
      have h1 := resOs_run hL hr hl
      refine ⟨hr.defers, ?_⟩
      have h2 : (results fn a.tmps).run x.P w = .ok (if h : (denL V l).toArray.size = 1 then (denL V l).toArray[0] else .tuple (denL V l).toArray) w := by
        show (do let vs ← fn.results.mapM (getRes a.tmps); pure (if h : vs.size = 1 then vs[0] else .tuple vs) : Sem Value).run x.P w = _
        rw [hrs, Array.mapM_eq_mapM_toList]
        simp only [Sem.run_bind, Sem.run_map, h1, Result.andThen_ok]
        rfl
      rw [h2]
      refine ⟨_, rfl, ?_⟩
      have := hR V s a w _ hK (pack_ok hok) hr
      match l, this with
      | [], h => exact h
      | [v], h => exact h
      | u :: v :: l, h =>
        have hne : ¬ (denL V (u :: v :: l)).toArray.size = 1 := by simp [denL]
        rw [dif_neg hne]
        exact h
    · exact hK.elim
  intro e a w ⟨s, V, hq, hr⟩
  cases e <;> first | exact hq.elim | exact key s V a w hq hr
def callB (P : Program) (g : Nat) : Bool :=
  match P.funcs[g]? with
  | some fn => fn.body.isSome && fn.name != "runtime.NumGoroutine"
  | none => false
structure Trip (P : Program) (g : Nat) (avs : List SV) (pre : St) {Z : Type} (ψ : Z → Prop) (res : Z → SV) (post : Z → St) : Prop where
  can : callB P g = true
  runs : ∀ (V : Vl) (D0 : Nat → Prop) (w : World), Ents D0 V pre w → (∀ b, D0 b → b < w.heap.size) →
    Calls P g (denL V avs).toArray w fun e w' => ∃ z V', ψ z ∧ e = .returned (den V' (res z)) ∧ okV (post z).nb (res z) = true ∧ pre.nb ≤ (post z).nb ∧ AgrB pre.nb V' V ∧ Ents D0 V' (post z) w' ∧ Fr (Dl V pre.mem) w w' ∧ ∀ b, Dl V' (post z).mem b → w.heap.size ≤ b ∨ Dl V pre.mem b
def argEnv : Nat → List SV → List (Nat × SV)
  | _, [] => []
  | i, v :: l => (i, v) :: argEnv (i + 1) l
theorem argEnv_find : ∀ {l : List SV} {i t : Nat} {v : SV}, find (argEnv i l) t = some v → i ≤ t ∧ l[t - i]? = some v
  | [], i, t, v, h => by simp [argEnv, find] at h
  | u :: l, i, t, v, h => by
    simp only [argEnv, find_cons] at h
    split at h
    · rename_i e; subst e; cases h; exact ⟨Nat.le_refl _, by simp⟩
    · rename_i e
      obtain ⟨h1, h2⟩ := argEnv_find h
      refine ⟨by omega, ?_⟩
      rw [show t - i = (t - (i + 1)) + 1 by omega]
      simpa using h2
theorem rep_start {P : Program} {L : Lay} {D0 : Nat → Prop} {V : Vl} {n : Nat} {avs : List SV} {pre : St} {w : World} (hn : avs.length ≤ n) (hok : okL pre.nb avs = true) (hE : Ents D0 V pre w) (hD : ∀ b, D0 b → b < w.heap.size) :
    Rep ⟨P, L, n, pre.nb⟩ ⟨w, D0, Dl V pre.mem, V⟩ V ⟨argEnv 0 avs, pre.mem, pre.nb⟩ { tmps := (denL V avs).toArray ++ Array.replicate (n - (denL V avs).toArray.size) Go.undef, defers := [] } w := by
  refine ⟨rfl, by simp [denL_length]; omega, fun t v hv => ?_, fun t v hv => ?_, hE.env, Fr.refl _ _, fun b hb => .inr hb, ⟨Nat.le_refl _, AgrB.refl _ _⟩, fun b hb => ⟨hD b hb, ?_⟩⟩
  · obtain ⟨_, h2⟩ := argEnv_find hv
    rw [Nat.sub_zero] at h2
    have hlt : t < avs.length := (List.getElem?_eq_some_iff.1 h2).1
    have e := denL_get V h2
    rw [Array.getD_eq_getD_getElem?, Array.getElem?_append_left (by simpa [denL_length] using hlt)]
    simp [e]
  · obtain ⟨_, h2⟩ := argEnv_find hv
    exact (okL_iff _ _).1 hok v (List.mem_of_getElem? (by rw [Nat.sub_zero] at h2; exact h2))
  · rintro ⟨r, y, hc, hl, hk, rfl⟩
    exact hE.d0 r y hc hl (by rw [hk]; simp) hb
theorem trip_by {P : Program} {L : Lay} {g : Nat} {fn : Func} {c : Code} {n : Nat} {rs : List ResultVar} {avs : List SV} {pm : List (Nat × MB)} {pn : Nat} {Z : Type} {ψ : Z → Prop} {res : Z → SV} {post : Z → St} (fuel : Nat) (hL : LayOk P L) (hf : P.funcs[g]? = some fn) (hb : fn.body = some c) (hc : callB P g = true)
    (hn : fn.ntmps = n) (hrs : fn.results = rs.toArray) (hlen : Nat.ble avs.length n = true) (hok : okL pn avs = true)
    (h : Good ⟨P, L, n, pn⟩ (endS ⟨P, L, n, pn⟩ rs fun u s => ∃ z, ψ z ∧ SubG pn ⟨[(0, res z)], (post z).mem, (post z).nb⟩ ⟨[(0, u)], s.mem, s.nb⟩) (run ⟨P, L, n, pn⟩ fuel [] (.code c) [] ⟨argEnv 0 avs, pm, pn⟩)) : Trip P g avs ⟨[], pm, pn⟩ ψ res post := by
  refine ⟨hc, fun V D0 w hE hD => calls_of_wp hf hb ?_⟩
  rw [hn]
  have htr : Tr ⟨P, L, n, pn⟩ c _ ⟨argEnv 0 avs, pm, pn⟩ := (run_ok (x := ⟨P, L, n, pn⟩) hL h).2
  refine Go.wp_mono (htr.run ⟨w, D0, Dl V pm, V⟩ V _ w (rep_start (pre := ⟨[], pm, pn⟩) (Nat.le_of_ble_eq_true hlen) hok hE hD)) (endS_sound (x := ⟨P, L, n, pn⟩) hL hrs fun V1 s a w' u hK hou hr => ?_)
  obtain ⟨z, hz, hs⟩ := hK
  have hT := SubG_ok (x := ⟨P, L, 1, pn⟩) hs
  have hr1 : Rep ⟨P, L, 1, pn⟩ ⟨w, D0, Dl V pm, V⟩ V1 ⟨[(0, u)], s.mem, s.nb⟩ { tmps := #[den V1 u], defers := [] } w' := by
    refine ⟨rfl, rfl, fun t v hv => ?_, fun t v hv => ?_, hr.ents.env, hr.frame, hr.own, hr.pin, hr.d0⟩
    · simp only [find_cons] at hv
      split at hv
      · rename_i e; subst e; cases hv; rfl
      · simp [find] at hv
    · simp only [find_cons] at hv
      split at hv
      · cases hv; exact hou
      · simp [find] at hv
  obtain ⟨V2, h2⟩ := hT.run _ V1 _ w' hr1
  have hres : den V2 (res z) = den V1 u := by
    have := h2.env 0 (res z) (by simp [find])
    simpa using this.symm
  exact ⟨z, V2, hz, by rw [hres], h2.envOk 0 (res z) (by simp [find]), h2.pin.1, h2.pin.2, h2.ents.env, h2.frame, h2.own⟩
end Go.Proofs.Ytkageldgmkajbaa
namespace Go.Proofs.Ytkageldgmkajbaa
open Go.RowKit
section
variable {x : Cx} {Q : Exit → St → Prop} {obs : List Prop} {K : List Kf} {b : Bool} {c d : Code} {t : Nat} {all l : List Oper} {env : List (Nat × SV)} {mem : List (Nat × MB)} {nb : Nat} {s : St}
theorem g_id {r : Res} (h : Good x Q r) : Good x Q r := h
theorem g_fin {e : Exit} (ho : AllP obs) (h : Q e s) : Good x Q (.fin obs e s) := ⟨ho, h⟩
theorem g_cond (hL : LayOk x.P x.L) (n : Nat) (ho : AllP obs) (h1 : b = true → Good x Q (run x n [] (.code c) K s)) (h2 : b = false → Good x Q (run x n [] (.code d) K s)) : Good x Q (.cond obs b c d K s) :=
  ⟨ho, fun h => (run_ok hL (h1 h)).2, fun h => (run_ok hL (h2 h)).2⟩
theorem g_split (hL : LayOk x.P x.L) (n : Nat) (ho : AllP obs) (h1 : b = true → Good x Q (run x n [] (.ops all l) K ⟨(t, .tf true) :: env, mem, nb⟩)) (h2 : b = false → Good x Q (run x n [] (.ops all l) K ⟨(t, .tf false) :: env, mem, nb⟩)) : Good x Q (.split obs b t all l K ⟨env, mem, nb⟩) :=
  ⟨ho, fun h => (run_ok hL (h1 h)).2, fun h => (run_ok hL (h2 h)).2⟩
theorem g_out (hL : LayOk x.P x.L) (n : Nat) {m : Mo} (ho : AllP obs) (h : Good x Q (run x n [] m K s)) : Good x Q (.out obs m K s) := ⟨ho, (run_ok hL h).2⟩
theorem g_loop (hL : LayOk x.P x.L) (n : Nat) {Z : Type} (I : Z → Prop) (st : Z → St) (m : Z → Nat) (ho : AllP obs) (h0 : ∃ z, I z ∧ SubG x.kb (st z) s)
    (round : ∀ y, I y → Good x (thenS (fun s' => ∃ z, I z ∧ m z < m y ∧ SubG x.kb (st z) s') (QK x K Q)) (run x n [] (.code c) [] (st y))) : Good x Q (.code obs (.loop c) K s) := ⟨ho, go_loop n I st m hL h0 round⟩
theorem q_round {P : St → Prop} {R : Exit → St → Prop} (h : P s) : thenS P R .normal s := h
theorem q_leave {P : St → Prop} (hL : LayOk x.P x.L) (n : Nat) {i : Nat} (h : Good x Q (run x n [] (.exit (.exit i)) K s)) : thenS P (QK x K Q) (.exit i) s := (run_ok hL h).2
theorem q_ret {P : St → Prop} (hL : LayOk x.P x.L) (n : Nat) (h : Good x Q (run x n [] (.exit .ret) K s)) : thenS P (QK x K Q) .ret s := (run_ok hL h).2
end
theorem o_nil : AllP [] := trivial
theorem o_cons {p : Prop} {l : List Prop} (h : p) (hl : AllP l) : AllP (p :: l) := ⟨h, hl⟩
theorem o_id {l : List Prop} (h : AllP l) : AllP l := h
theorem s_id {kb : Nat} {t s : St} (h : HoldsO (subR kb t s)) : SubG kb t s := h
theorem s_some {l : List Prop} (h : AllP l) : HoldsO (some l) := h
theorem e_id {x : Cx} {rs : List ResultVar} {K : SV → St → Prop} {e : Exit} {s : St} (h : endS x rs K e s) : endS x rs K e s := h
theorem not_t {b : Bool} (h : (!b) = true) : b = false := by simpa using h
theorem not_f {b : Bool} (h : (!b) = false) : b = true := by simpa using h
end Go.Proofs.Ytkageldgmkajbaa
