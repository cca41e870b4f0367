/- Parts of the proof. No condition. -/
import Derived.Test.YtonjbhdfimcedaaQ7
import Derived.Deep.RegionLaw
import Derived.Lib.Walk
import Derived.Sort.WalkB12
import Derived.Lib.SliceRun
import Derived.Lib.SlicesDelete
import Derived.Shelf.RegionOpenPlain
import Derived.Deep.LoopGhost
set_option linter.unusedVariables false
set_option linter.unusedSimpArgs false
set_option linter.unusedSectionVars false
namespace Go.Proofs.Ytonjbhdfimcedaa
open Go.RowKit Go.Lib
theorem zero_op (w : World) : (zeroValue 42).run Try.prog w = .ok (.agg #[.int .i64 0, .int .i64 0, .int .i64 0, .int .i64 0, .int .i64 0]) w := by
  obtain ⟨i, g1, _, g2, _⟩ := (lay_ok.at (t := 42) rfl).info
  exact r_zero g1 g2
theorem clear_op (w : World) (ty : TypeId) (b o c : Nat) (hc : ∀ j, j < 5 → (w.cell? ⟨b, o + j, none⟩).isSome = true) (hf : ∀ j, j < 5 → w.frozen? ⟨b, o + j, none⟩ = false) :
    (Builtin.clear_ #[36] ty #[.slice (some ⟨b, o, none⟩) 1 c]).run Try.prog w = .ok (.tuple #[]) (w.setCells b o (List.replicate 5 (.int .i64 0))) := by
  have hst := run_storeCells_cells (P := Try.prog) b o (List.replicate 5 (.int .i64 0)) 0 w (by simpa using hc) (by simpa using hf) (by intro v hv'; rw [List.eq_of_mem_replicate hv']; rfl)
  simp only [Nat.add_zero] at hst
  have hu : Try.prog.underlying 36 = some (.slice 42) := by kernel_rfl
  have hz : (Builtin.zeroCells (Value.agg #[.int .i64 0, .int .i64 0, .int .i64 0, .int .i64 0, .int .i64 0]).cells 1).toList = List.replicate 5 (.int .i64 0) := by simp [Builtin.zeroCells, Value.cells, List.replicate]; rfl
  simp only [List.replicate] at hst hz ⊢
  simp [Builtin.clear_, run_underlying hu, zero_op, hz, hst]
set_option maxHeartbeats 4000000 in
set_option maxRecDepth 1000000 in
theorem del_calls (blk off cap i n : Nat) (news : List Value) (w : World) (hin : i < n) (hnc : n ≤ cap) (hcap : cap ≤ 9223372036854775807)
    (hlen : news.length = (n - (i + 1)) * 5) (hget : ∀ t u, news[t]? = some u → w.cell? ⟨blk, off + (i + 1) * 5 + t, none⟩ = some u) (hone : ∀ u ∈ news, u.oneCell' = true)
    (hsome : ∀ t, t < n * 5 → (w.cell? ⟨blk, off + t, none⟩).isSome = true ∧ w.frozen? ⟨blk, off + t, none⟩ = false) :
    Calls Try.prog 99 #[.slice (some ⟨blk, off, none⟩) n cap, .int .i64 (i : Int), .int .i64 ((i : Int) + 1)] w
      fun e w' => e = .returned (.slice (some ⟨blk, off, none⟩) (n - 1) cap) ∧ w' = (w.drew.setCells blk (off + i * 5) news).setCells blk (off + (n - 1) * 5) (List.replicate 5 (.int .i64 0)) := by
  have hu : Try.prog.underlying 36 = some (.slice 42) := by kernel_rfl
  obtain ⟨i0, hi0, hz1, _⟩ := (lay_ok.at (t := 42) rfl).info
  have hz5 : i0.size = 5 := hz1.trans rfl
  have hn1 : n - (i + 1) + i = n - 1 := by omega
  have ai : ((i : Int) + 1).toNat = i + 1 := by omega
  have wi : IntKind.i64.wrap ((i : Int) + 1) = (i : Int) + 1 := rng_wrap ⟨by omega, by omega, trivial⟩
  obtain ⟨A, hA, hsrc⟩ : ∃ A : Addr, (if cap = i + 1 then (some (⟨blk, off, none⟩ : Addr)) else some ⟨blk, off + (i + 1) * 5, none⟩) = some A ∧ Hid (∀ t u, news[t]? = some u → w.drew.cell? (A.add t) = some u) := by
    by_cases h : cap = i + 1
    · refine ⟨⟨blk, off, none⟩, by simp [h], fun t u hu => ?_⟩
      have h0 : news.length = 0 := by rw [hlen]; omega
      rw [List.length_eq_zero_iff.1 h0] at hu
      simp at hu
    · refine ⟨⟨blk, off + (i + 1) * 5, none⟩, by simp [h], fun t u hu => ?_⟩
      rw [Addr.add_lit]
      exact hget t u hu
  have s1 : Hid (news.length = (n - (i + 1)) * 5) := hlen
  have s2 : Hid (∀ u ∈ news, u.oneCell' = true) := hone
  have s3 : Hid (∀ t, t < news.length → (w.drew.cell? ⟨blk, off + i * 5 + t, none⟩).isSome = true ∧ w.drew.frozen? ⟨blk, off + i * 5 + t, none⟩ = false) := by
    intro t ht
    rw [hlen] at ht
    rw [Nat.add_assoc]
    exact hsome (i * 5 + t) (by omega)
  obtain ⟨W1, hW1⟩ : ∃ W1, W1 = w.drew.setCells blk (off + i * 5) news := ⟨_, rfl⟩
  have hcl : ∀ ty, (Builtin.clear_ #[36] ty #[.slice (some ⟨blk, off + (n - 1) * 5, none⟩) 1 (cap - (n - 1))]).run Try.prog W1 = .ok (.tuple #[]) (W1.setCells blk (off + (n - 1) * 5) (List.replicate 5 (.int .i64 0))) := fun ty => by
    refine clear_op W1 ty blk _ _ (fun j hj => ?_) (fun j hj => ?_)
    · rw [hW1]
      refine World.isSome_setCells blk news _ _ _ ?_
      have := (hsome ((n - 1) * 5 + j) (by omega)).1
      rw [Nat.add_assoc]; exact this
    · rw [hW1, World.frozen?_setCells]
      have := (hsome ((n - 1) * 5 + j) (by omega)).2
      rw [Nat.add_assoc]; exact this
  have e1 : i + (n - (i + 1)) = n - 1 := by omega
  have e2 : n - (n - 1) = 1 := by omega
  have hW : Hid (W1 = w.drew.setCells blk (off + i * 5) news) := hW1
  have hic : i ≤ cap := by omega
  have hjc : i + 1 ≤ cap := by omega
  have b0 : (0 : Int) ≤ (i : Int) + 1 := by omega
  have b1 : (i : Int) + 1 ≤ (n : Int) := by omega
  have mixed : Try.prog.follows .mixedOrders = true := mixed_ok
  rw [← hW1]
  clear hW1 hget hone hsome hlen
  go_enter Try.func99, Try.ntmps99
  go_wp2_with fail
  go_region_law_o (refine step_append_room rfl (.tmp 22) (.tmp 25) 36 rfl 42 i0 5 hu hi0 hz5 blk off i cap (by simp [Act.eval, Act.put]) A (n - (i + 1)) (cap - (i + 1)) news (by simp [Act.eval, Act.put]) s1.out hsrc.out s2.out (by omega) s3.out ?_; rw [← hW.out])
  go_wp2
  go_ret
  exact ⟨rfl, rfl⟩
theorem setRow_two {w : World} {b : Nat} {c1 c2 : Array Value} : (w.setRow b c1).setRow b c2 = w.setRow b c2 := by
  unfold World.setRow
  simp only
  congr 1
  apply Array.ext
  · simp
  · intro i h1 h2
    simp only [Array.getElem_modify]
    split
    · rename_i e; subst e
      split <;> rename_i e1 <;> split at e1 <;> first | (cases e1; rfl) | (rename_i h3; exact absurd e1 (h3 _ _ _)) | skip
      all_goals first | rfl | (simp_all; done) | skip
    · rfl
theorem setCells_row {w : World} {b o : Nat} {vs : List Value} {cs : Array Value} {t : TypeId} (hb : w.heap[b]? = some (.cells cs t)) (hs : o + vs.length ≤ cs.size) (h1 : ∀ v ∈ vs, v.oneCell' = true) :
    w.setCells b o vs = w.setRow b (cs.toList.take o ++ vs ++ cs.toList.drop (o + vs.length)).toArray := by
  have r1 := run_storeCells_at (P := Try.prog) b o t vs 0 cs w hb (by omega) h1
  have hc : ∀ j, j < vs.length → (w.cell? ⟨b, o + 0 + j, none⟩).isSome = true := fun j hj => by
    simp only [World.cell?, hb, Option.isSome_none, Bool.false_eq_true, if_false]
    rw [Array.getElem?_eq_getElem (by omega)]; rfl
  have hf : ∀ j, j < vs.length → w.frozen? ⟨b, o + 0 + j, none⟩ = false := fun j hj => by
    simp [World.frozen?, hb]
  have r2 := run_storeCells_cells (P := Try.prog) b o vs 0 w hc hf h1
  rw [r1] at r2
  injection r2 with _ e
  simp only [Nat.add_zero] at e
  exact e.symm
theorem setRow_cells {w : World} {b : Nat} {cs cs' : Array Value} {t : TypeId} (hb : w.heap[b]? = some (.cells cs t)) : (w.setRow b cs').heap[b]? = some (.cells cs' t) := setRow_heap w b cs cs' t (0, 0) hb
def delC (cs : List Value) (off i n : Nat) (news : List Value) : List Value := cs.take (off + i * 5) ++ news ++ List.replicate 5 (.int .i64 0) ++ cs.drop (off + n * 5)
theorem del_cells {cs : Array Value} {off i n : Nat} {news : List Value} (hin : i < n) (hfit : off + n * 5 ≤ cs.size) (hlen : news.length = (n - (i + 1)) * 5) :
    let c1 := (cs.toList.take (off + i * 5) ++ news ++ cs.toList.drop (off + i * 5 + news.length)).toArray
    c1.toList.take (off + (n - 1) * 5) ++ List.replicate 5 (.int .i64 0) ++ c1.toList.drop (off + (n - 1) * 5 + 5) = delC cs.toList off i n news := by
  intro c1
  have hA : (cs.toList.take (off + i * 5) ++ news).length = off + (n - 1) * 5 := by
    rw [List.length_append, List.length_take, hlen, Array.length_toList]; omega
  have e : c1.toList = (cs.toList.take (off + i * 5) ++ news) ++ cs.toList.drop (off + i * 5 + news.length) := by simp [c1]
  rw [e, ← hA, List.take_left, ← List.drop_drop, List.drop_left, List.drop_drop]
  unfold delC
  rw [show off + i * 5 + news.length + 5 = off + n * 5 by rw [hlen]; omega]
theorem del_world {blk off cap i n : Nat} {w : World} {cs : Array Value} {t : TypeId} (hb : w.heap[blk]? = some (.cells cs t)) (hin : i < n) (hnc : n ≤ cap) (hcap : cap ≤ 9223372036854775807) (hfit : off + n * 5 ≤ cs.size) {news : List Value}
    (hlen : news.length = (n - (i + 1)) * 5) (hget : ∀ t u, news[t]? = some u → cs[off + (i + 1) * 5 + t]? = some u) (hone : ∀ u ∈ news, u.oneCell' = true) :
    Calls Try.prog 99 #[.slice (some ⟨blk, off, none⟩) n cap, .int .i64 (i : Int), .int .i64 ((i : Int) + 1)] w
      fun e w' => e = .returned (.slice (some ⟨blk, off, none⟩) (n - 1) cap) ∧ w' = w.drew.setRow blk (delC cs.toList off i n news).toArray := by
  refine (del_calls blk off cap i n news w hin hnc hcap hlen (fun t u hu => ?_) hone (fun t ht => ?_)).mono ?_
  · simp only [World.cell?, hb, Option.isSome_none, Bool.false_eq_true, if_false]
    exact hget t u hu
  · constructor
    · simp only [World.cell?, hb, Option.isSome_none, Bool.false_eq_true, if_false]
      rw [Array.getElem?_eq_getElem (by omega)]; rfl
    · simp [World.frozen?, hb]
  · rintro e w' ⟨rfl, rfl⟩
    refine ⟨rfl, ?_⟩
    have hb1 : w.drew.heap[blk]? = some (.cells cs t) := hb
    rw [setCells_row hb1 (by rw [hlen]; omega) hone]
    rw [setCells_row (setRow_cells hb1) (by simp [hlen]; omega) (by intro v hv; rw [List.eq_of_mem_replicate hv]; rfl), setRow_two]
    congr 1
    have := del_cells (cs := cs) hin hfit hlen
    simp only [List.length_replicate]
    exact congrArg List.toArray this
theorem delC_at {cs : List Value} {off i n : Nat} {news : List Value} (hin : i < n) (hfit : off + n * 5 ≤ cs.length) (hlen : news.length = (n - (i + 1)) * 5) (q : Nat) :
    (delC cs off i n news)[off + q]? = if q < i * 5 then cs[off + q]? else if q < (n - 1) * 5 then news[q - i * 5]? else if q < n * 5 then some (.int .i64 0) else cs[off + q]? := by
  unfold delC
  have hA : (cs.take (off + i * 5)).length = off + i * 5 := by rw [List.length_take]; omega
  by_cases h1 : q < i * 5
  · rw [if_pos h1, List.append_assoc, List.append_assoc, List.getElem?_append_left (by omega), List.getElem?_take, if_pos (by omega)]
  · rw [if_neg h1, List.append_assoc, List.append_assoc, List.getElem?_append_right (by omega), hA]
    have e : off + q - (off + i * 5) = q - i * 5 := by omega
    rw [e]
    by_cases h2 : q < (n - 1) * 5
    · rw [if_pos h2, List.getElem?_append_left (by rw [hlen]; omega)]
    · rw [if_neg h2, List.getElem?_append_right (by rw [hlen]; omega)]
      by_cases h3 : q < n * 5
      · rw [if_pos h3, List.getElem?_append_left (by rw [hlen, List.length_replicate]; omega), List.getElem?_replicate, if_pos (by rw [hlen]; omega)]
      · rw [if_neg h3, List.getElem?_append_right (by rw [hlen, List.length_replicate]; omega), List.getElem?_drop, List.length_replicate, hlen]
        congr 1; omega
def stO (l : List Blk) (i : Nat) (o : List Op_) : List Blk := l.set i ⟨o, (gt (c := .block) l i).cond, (gt (c := .block) l i).next⟩
theorem op_noSl {x : Op_} {j : Nat} {c : Ty} {l : List (El c)} (h : (tcells .op x)[j]? = some (.sl c l)) : False := by
  rcases j with _ | _ | _ | _ | _ | j <;> simp [tcells] at h
theorem stO_desc {l : List Blk} {i : Nat} {o : List Op_} (hi : i < l.length) {q : Path} {c2 : Ty} {l2 : List (El c2)} (h : desc .block (stO l i o) q = some ⟨c2, l2⟩) :
    (q = [] ∧ (⟨c2, l2⟩ : (c : Ty) × List (El c)) = ⟨.block, stO l i o⟩) ∨ (q = [(i, 0)] ∧ (⟨c2, l2⟩ : (c : Ty) × List (El c)) = ⟨.op, o⟩) ∨ (q ≠ [] ∧ q ≠ [(i, 0)] ∧ desc .block l q = some ⟨c2, l2⟩) := by
  cases q with
  | nil => exact .inl ⟨rfl, (Option.some.inj h).symm⟩
  | cons ab q =>
    obtain ⟨a, b⟩ := ab
    obtain ⟨x, c1, l1, hx, hj, hd⟩ := desc_cons h
    by_cases ha : a = i
    · subst ha
      unfold stO at hx
      rw [List.getElem?_set_self hi] at hx
      cases hx
      rcases b with _ | _ | _ | b
      · simp only [tcells, List.getElem?_cons_zero, Option.some.injEq, TC.sl.injEq] at hj
        obtain ⟨rfl, hj⟩ := hj
        cases hj
        cases q with
        | nil => exact .inr (.inl ⟨rfl, (Option.some.inj hd).symm⟩)
        | cons ab q =>
          obtain ⟨a2, b2⟩ := ab
          obtain ⟨x2, c3, l3, _, hj2, _⟩ := desc_cons hd
          exact (op_noSl hj2).elim
      · simp [tcells] at hj
      · refine .inr (.inr ⟨by simp, by simp, ?_⟩)
        exact desc_mk (c := .block) (gt_at (c := .block) hi) (j := 2) (by simpa [tcells] using hj) hd
      · simp [tcells] at hj
    · unfold stO at hx
      rw [List.getElem?_set_ne (Ne.symm ha)] at hx
      exact .inr (.inr ⟨by simp, fun e => ha (by simp at e; exact e.1.1), desc_mk hx hj hd⟩)
theorem stO_len {l : List Blk} {i : Nat} {o : List Op_} : (stO l i o).length = l.length := List.length_set
theorem Rep.rowOps {x : Cx} {g : Gx} {V : Vl} {s : St} {a : Act} {w w' : World} (hr : Rep x g V s a w) {k i : Nat} {l : List Blk} (hm : find s.mem k = some (.list .own .block l)) (hi : i < l.length) {o : List Op_} (hlen : o.length = (gt (c := .block) l i).ops.length)
    (hne : 0 < o.length) {ad : Addr} {cs cs' : Array Value} {tt : TypeId} (ha : (V ⟨k, [(i, 0)]⟩).a = some ad) (hsp : ad.spot = none) (hh : w.heap[ad.block]? = some (.cells cs tt)) (hh' : w'.heap[ad.block]? = some (.cells cs' tt)) (hsz : cs'.size = cs.size)
    (other : ∀ b, b ≠ ad.block → w'.heap[b]? = w.heap[b]?) (hhs : w'.heap.size = w.heap.size) (io : SIO w w')
    (hin : ∀ r y, o[r]? = some y → ∀ j t, (tcells .op y)[j]? = some t → cs'[ad.off + (r * 5 + j)]? = some (denT V ⟨0, []⟩ t)) :
    Rep x g V ⟨s.env, (k, .list .own .block (stO l i o)) :: s.mem, s.nb⟩ a w' := by
  have hpa : desc .block l [(i, 0)] = some ⟨.op, (gt (c := .block) l i).ops⟩ := desc_mk (c := .block) (gt_at (c := .block) hi) (j := 0) rfl rfl
  have hc : cont s.mem ⟨k, [(i, 0)]⟩ = some (.list .own .op (gt (c := .block) l i).ops) := cont_iff.2 ⟨_, hm, by simp only [contB, hpa]; rfl⟩
  have hat := hr.ents.at_ _ _ hc
  obtain ⟨q1, q2, q3, q4⟩ := hat
  have hbl : (V ⟨k, [(i, 0)]⟩).b = ad.block := by unfold Loc.b; rw [ha]
  have hlive : liveB (V ⟨k, [(i, 0)]⟩) (.list .own .op (gt (c := .block) l i).ops) := by simp only [liveB]; omega
  have old : ∀ q b', contB (.list .own .block (stO l i o)) q = some b' → ∃ (c2 : Ty) (l2 l2' : List (El c2)), b' = .list .own c2 l2' ∧ cont s.mem ⟨k, q⟩ = some (.list .own c2 l2) ∧ l2'.length = l2.length ∧
      ((q = [(i, 0)] ∧ (⟨c2, l2'⟩ : (c : Ty) × List (El c)) = ⟨.op, o⟩) ∨ (q ≠ [(i, 0)] ∧ ∀ (a' : Nat) (x' : El c2), l2'[a']? = some x' → ∃ x0 : El c2, l2[a']? = some x0 ∧ ∀ (j : Nat) (t' : TC), (tcells c2 x')[j]? = some t' → ∃ t0 : TC, (tcells c2 x0)[j]? = some t0 ∧ SameC t0 t')) := by
    intro q b' h
    simp only [contB] at h
    split at h
    · rename_i c2 l2' hd
      cases h
      rcases stO_desc hi hd with ⟨rfl, e⟩ | ⟨rfl, e⟩ | ⟨n1, n2, e⟩
      · cases e
        refine ⟨.block, l, _, rfl, cont_iff.2 ⟨_, hm, rfl⟩, stO_len, .inr ⟨by simp, fun a' x' hx' => ?_⟩⟩
        by_cases e : a' = i
        · subst e
          unfold stO at hx'
          rw [List.getElem?_set_self hi] at hx'
          cases hx'
          refine ⟨_, gt_at (c := .block) hi, fun j t' ht' => ?_⟩
          rcases j with _ | _ | _ | j
          · exact ⟨_, rfl, .inr ⟨.op, _, _, rfl, (Option.some.inj ht').symm⟩⟩
          · exact ⟨_, ht', .inl rfl⟩
          · exact ⟨_, ht', .inl rfl⟩
          · simp [tcells] at ht'
        · unfold stO at hx'
          rw [List.getElem?_set_ne (Ne.symm e)] at hx'
          exact ⟨x', hx', fun j t' ht' => ⟨t', ht', .inl rfl⟩⟩
      · cases e
        exact ⟨.op, _, _, rfl, hc, hlen, .inl ⟨rfl, rfl⟩⟩
      · exact ⟨c2, l2', l2', rfl, cont_iff.2 ⟨_, hm, by simp only [contB, e]; rfl⟩, rfl, .inr ⟨n2, fun a' x' hx' => ⟨x', hx', fun j t' ht' => ⟨t', ht', .inl rfl⟩⟩⟩⟩
    · cases h
  have hq : ∀ q b', contB (.list .own .block (stO l i o)) q = some b' → ∃ b0, cont s.mem ⟨k, q⟩ = some b0 ∧ kindB b0 = kindB b' ∧ (liveB (V ⟨k, q⟩) b' → liveB (V ⟨k, q⟩) b0) := by
    intro q b' h
    obtain ⟨c2, l2, l2', rfl, g1, _⟩ := old q b' h
    exact ⟨_, g1, rfl, fun hl => hl⟩
  have hE := hr.ents.upd (w' := w') (m' := .list .own .block (stO l i o)) (b := ad.block) s.env (hr.ents.ok k _ hm).1 rfl hq (fun r c0 hc0 hl hne => other _ fun he => hne (by rw [← hr.ents.sep ⟨k, [(i, 0)]⟩ r _ c0 hc hc0 hlive hl rfl (by rw [hbl, he])]))
    (fun q b' h => by
      obtain ⟨c2, l2, l2', rfl, g1, g2, g3⟩ := old q b' h
      obtain ⟨r1, r2, r3, r4⟩ := hr.ents.at_ _ _ g1
      rcases g3 with ⟨rfl, e⟩ | ⟨n2, g3⟩
      · cases e
        refine ⟨by rw [g2]; exact r1, by rw [g2]; exact r2, fun hd => ?_, fun a' x' hx' j t' ht' => ?_⟩
        · rcases r3 hd with h0 | ⟨a3, cs3, t3, z1, z2, z3, z4, z5⟩
          · exact .inl h0
          · rw [ha] at z1
            cases z1
            rw [hh] at z3
            cases z3
            exact .inr ⟨ad, cs', tt, ha, hsp, hh', by rw [hsz]; exact z4, z5⟩
        · refine ⟨ad, ha, hsp, ?_⟩
          have h5 := hin a' x' hx' j t' ht'
          rw [show denT V (Rid.ch ⟨k, [(i, 0)]⟩ a' j) t' = denT V ⟨0, []⟩ t' by
            cases t' with
            | sl c3 l3 => exact (op_noSl ht').elim
            | _ => rfl]
          exact cell_of hh' h5
      · have hdiff : liveB (V ⟨k, q⟩) (.list .own c2 l2) → (V ⟨k, q⟩).b ≠ ad.block := by
          intro hl he
          have := hr.ents.sep ⟨k, [(i, 0)]⟩ ⟨k, q⟩ _ _ hc g1 hlive hl rfl (by rw [hbl, he])
          simp only [Rid.mk.injEq, true_and] at this
          exact n2 this.symm
        refine ⟨by rw [g2]; exact r1, by rw [g2]; exact r2, fun hd => ?_, fun a' x' hx' j t' ht' => ?_⟩
        · rcases Nat.eq_zero_or_pos (V ⟨k, q⟩).cap with hz0 | hp0
          · exact .inl hz0
          rcases r3 hd with h | ⟨a3, cs3, t3, z1, z2, z3, z4⟩
          · exact .inl h
          · have hlq : liveB (V ⟨k, q⟩) (.list .own c2 l2) := by simp only [liveB]; omega
            have := hdiff hlq
            unfold Loc.b at this
            rw [z1] at this
            exact .inr ⟨a3, cs3, t3, z1, z2, (other _ this).trans z3, z4⟩
        · obtain ⟨x0, k1, k2⟩ := g3 a' x' hx'
          obtain ⟨t0, w2, w3⟩ := k2 j t' ht'
          obtain ⟨ad2, y1, y2, y3⟩ := r4 a' x0 k1 j t0 w2
          refine ⟨ad2, y1, y2, ?_⟩
          have hlq : liveB (V ⟨k, q⟩) (.list .own c2 l2) := by
            have hne : l2 ≠ [] := by intro e; subst e; simp at k1
            have hpos : 0 < l2.length := List.length_pos_iff.2 hne
            simp only [liveB]; omega
          have := hdiff hlq
          unfold Loc.b at this
          rw [y1] at this
          rw [w3.den, cell_heap (other _ this)]
          exact y3) hr.d0w
  exact hr.upd hE hq (by rw [hhs]; exact Nat.le_refl _) (fun j _ hj => other _ fun he => hj ⟨⟨k, [(i, 0)]⟩, _, hc, hlive, rfl, by rw [hbl, he]⟩) io
def cellsO5 (y : Op_) : List Value := [.int .i64 y.kind, .int .i64 y.dst, .int .i64 y.a, .int .i64 y.b, .int .i64 y.imm]
def flatO (l : List Op_) : List Value := l.flatMap cellsO5
theorem flatO_len : ∀ l : List Op_, (flatO l).length = l.length * 5
  | [] => rfl
  | y :: l => by
    have := flatO_len l
    show (cellsO5 y ++ flatO l).length = _
    rw [List.length_append, this, List.length_cons]
    show 5 + _ = _
    omega
theorem flatO_at : ∀ {l : List Op_} {r j : Nat}, j < 5 → (flatO l)[r * 5 + j]? = (l[r]?).bind fun y => (cellsO5 y)[j]?
  | [], r, j, h => by simp [flatO]
  | y :: l, 0, j, h => by
    show (cellsO5 y ++ flatO l)[0 * 5 + j]? = _
    rw [List.getElem?_append_left (by show _ < 5; omega), Nat.zero_mul, Nat.zero_add]; rfl
  | y :: l, r + 1, j, h => by
    show (cellsO5 y ++ flatO l)[(r + 1) * 5 + j]? = _
    rw [List.getElem?_append_right (by show 5 ≤ _; omega), show (r + 1) * 5 + j - (cellsO5 y).length = r * 5 + j by show _ - 5 = _; omega, flatO_at h]
    rfl
theorem cellsO5_at {y : Op_} {j : Nat} {t : TC} {V : Vl} {r : Rid} (h : (tcells .op y)[j]? = some t) : (cellsO5 y)[j]? = some (denT V r t) := by
  rcases j with _ | _ | _ | _ | _ | j
  all_goals first | (simp only [tcells, List.getElem?_cons_zero, List.getElem?_cons_succ, Option.some.injEq] at h; subst h; rfl) | (simp [tcells] at h)
theorem cellsO5_of {y : Op_} {j : Nat} {u : Value} (h : (cellsO5 y)[j]? = some u) (V : Vl) (r : Rid) : ∃ t, (tcells .op y)[j]? = some t ∧ u = denT V r t := by
  rcases j with _ | _ | _ | _ | _ | j
  all_goals first | (simp only [cellsO5, List.getElem?_cons_zero, List.getElem?_cons_succ, Option.some.injEq] at h; subst h; exact ⟨_, rfl, rfl⟩) | (simp [cellsO5] at h)
theorem cellsO5_one {y : Op_} : ∀ u ∈ cellsO5 y, u.oneCell' = true := by
  intro u hu
  simp only [cellsO5, List.mem_cons, List.not_mem_nil, or_false] at hu
  rcases hu with rfl | rfl | rfl | rfl | rfl <;> rfl
theorem flatO_one {l : List Op_} : ∀ u ∈ flatO l, u.oneCell' = true := by
  intro u hu
  obtain ⟨y, _, h⟩ := List.mem_flatMap.1 hu
  exact cellsO5_one u h
def erO (o : List Op_) (j : Nat) : List Op_ := o.eraseIdx j ++ [default]
theorem erO_len {o : List Op_} {j : Nat} (h : j < o.length) : (erO o j).length = o.length := by
  unfold erO
  rw [List.length_append, List.length_eraseIdx_of_lt h]
  show _ + 1 = _
  omega
theorem erO_at {o : List Op_} {j r : Nat} (h : j < o.length) : (erO o j)[r]? = if r < j then o[r]? else if r < o.length - 1 then o[r + 1]? else if r = o.length - 1 then some default else none := by
  unfold erO
  have hl := List.length_eraseIdx_of_lt h
  by_cases h1 : r < o.length - 1
  · rw [List.getElem?_append_left (by omega), List.getElem?_eraseIdx]
    by_cases h2 : r < j
    · rw [if_pos h2, if_pos h2]
    · rw [if_neg h2, if_neg h2, if_pos h1]
  · rw [List.getElem?_append_right (by omega), hl, if_neg (by omega), if_neg h1]
    by_cases h3 : r = o.length - 1
    · rw [if_pos h3, h3, Nat.sub_self]; rfl
    · rw [if_neg h3]
      exact List.getElem?_eq_none (by show 1 ≤ _; omega)
theorem del_call : callB Try.prog 99 = true := by kernel_rfl
theorem step_del {n kb : Nat} {s : St} {f a b c : Operand} {ts : Array TypeId} {t : Nat} {ty : TypeId} {pos : String} {after : Array Edge} {gd : Option (Nat × Bool)} {k i j : Nat} {l : List Blk}
    (hf : s.get f = some (.clo 99 [])) (ha : s.get a = some (.sl ⟨k, [(i, 0)]⟩)) (hb : s.get b = some (.int .i64 (j : Int))) (hc : s.get c = some (.int .i64 ((j : Int) + 1))) (hm : find s.mem k = some (.list .own .block l)) (hi : i < l.length)
    (hj : j < (gt (c := .block) l i).ops.length) (hT : Nat.blt t n = true) :
    StepTo ⟨Try.prog, lay, n, kb⟩ s ⟨some t, .call ⟨.value f, #[a, b, c], ts⟩, ty, pos, after, gd⟩ ⟨(t, .vw ⟨k, [(i, 0)]⟩ 5 0 ((gt (c := .block) l i).ops.length - 1) none) :: s.env, (k, .list .own .block (stO l i (erO (gt (c := .block) l i).ops j))) :: s.mem, s.nb⟩ :=
  ⟨fun g V ac w Q hr => by
    have hpa : desc .block l [(i, 0)] = some ⟨.op, (gt (c := .block) l i).ops⟩ := desc_mk (c := .block) (gt_at (c := .block) hi) (j := 0) rfl rfl
    have hcn : cont s.mem ⟨k, [(i, 0)]⟩ = some (.list .own .op (gt (c := .block) l i).ops) := cont_iff.2 ⟨_, hm, by simp only [contB, hpa]; rfl⟩
    obtain ⟨q1, q2, q3, q4⟩ := hr.ents.at_ _ _ hcn
    have hkn := (hr.ents.ok _ _ hm).1
    generalize hO : (gt (c := .block) l i).ops = o at *
    obtain ⟨ad, cs, tt, z1, z2, z3, z4, z5⟩ : ∃ a cs t, (V ⟨k, [(i, 0)]⟩).a = some a ∧ a.spot = none ∧ w.heap[a.block]? = some (.cells cs t) ∧ a.off + (V ⟨k, [(i, 0)]⟩).cap * 5 ≤ cs.size ∧ (V ⟨k, [(i, 0)]⟩).cap ≤ maxLen := by
      rcases q3 rfl with h | h
      · omega
      · exact h
    obtain ⟨blk, off, sp⟩ := ad
    simp only at z2 z3 z4
    subst z2
    have rowc : ∀ r y, o[r]? = some y → ∀ jj t, (tcells .op y)[jj]? = some t → cs[off + (r * 5 + jj)]? = some (denT V ⟨0, []⟩ t) := by
      intro r y hy jj t ht
      obtain ⟨ad2, y1, y2, y3⟩ := q4 r y hy jj t ht
      rw [z1] at y1
      cases y1
      simp only [World.cell?, z3, Option.isSome_none, Bool.false_eq_true, if_false] at y3
      refine y3.trans (congrArg some ?_)
      cases t with
      | sl c3 l3 => exact (op_noSl ht).elim
      | _ => rfl
    have hfit : off + o.length * 5 ≤ cs.size := by
      have : o.length * 5 ≤ (V ⟨k, [(i, 0)]⟩).cap * 5 := Nat.mul_le_mul_right _ q2
      omega
    have hnl : (flatO (o.drop (j + 1))).length = (o.length - (j + 1)) * 5 := by rw [flatO_len, List.length_drop]
    have hget : ∀ t u, (flatO (o.drop (j + 1)))[t]? = some u → cs[off + (j + 1) * 5 + t]? = some u := by
      intro t u hu
      have e : t = t / 5 * 5 + t % 5 := by omega
      rw [e, flatO_at (Nat.mod_lt _ (by decide)), List.getElem?_drop] at hu
      obtain ⟨y, hy, hu⟩ := Option.bind_eq_some_iff.1 hu
      obtain ⟨tc, h1, rfl⟩ := cellsO5_of hu V ⟨0, []⟩
      have := rowc _ _ hy _ _ h1
      rw [show off + (j + 1) * 5 + t = off + ((j + 1 + t / 5) * 5 + t % 5) by omega]
      exact this
    have hC := del_world (w := w) (cap := (V ⟨k, [(i, 0)]⟩).cap) z3 hj q2 z5 hfit hnl hget flatO_one
    have hfv : ac.eval f = .func (.func 99) #[] (denL V []).toArray := hr.env.get hf
    have hav : (#[a, b, c] : Array Operand).map ac.eval = #[.slice (some ⟨blk, off, none⟩) o.length (V ⟨k, [(i, 0)]⟩).cap, .int .i64 (j : Int), .int .i64 ((j : Int) + 1)] := by
      simp only [List.map_toArray, List.map_cons, List.map_nil, hr.env.get ha, hr.env.get hb, hr.env.get hc, den, Loc.hd, z1, q1]
    have hrun := run_call (P := Try.prog) (w := w) (dst := some t) (ts := ts) (ty := ty) (pos := pos) (after := after) (guard := gd) del_call hfv hav
    unfold Oper.wp
    rw [hrun]
    have e0 : (#[.slice (some ⟨blk, off, none⟩) o.length (V ⟨k, [(i, 0)]⟩).cap, .int .i64 (j : Int), .int .i64 ((j : Int) + 1)] : Array Value) ++ (denL V []).toArray = #[.slice (some ⟨blk, off, none⟩) o.length (V ⟨k, [(i, 0)]⟩).cap, .int .i64 (j : Int), .int .i64 ((j : Int) + 1)] := by simp [denL]
    rw [e0]
    refine hC.mono fun e w' ⟨he, hw'⟩ => ?_
    subst he
    subst hw'
    have hcs : cs.toList.length = cs.size := Array.length_toList
    have hrep := hr.rowOps (w' := w.drew.setRow blk (delC cs.toList off j o.length (flatO (o.drop (j + 1)))).toArray) (o := erO o j) hm hi (by rw [hO]; exact erO_len hj) (by rw [erO_len hj]; omega) z1 rfl z3 (setRow_cells (w := w.drew) z3)
      (by simp only [List.size_toArray]; unfold delC; simp only [List.length_append, List.length_take, List.length_replicate, List.length_drop, hnl, hcs]; omega)
      (fun b hb => setRow_other w.drew blk b _ hb) (by rw [setRow_size]; rfl) ⟨rfl, rfl, rfl⟩
      (fun r y hy jj tc htc => by
        have hjw : jj < 5 := (List.getElem?_eq_some_iff.1 htc).1
        rw [List.getElem?_toArray]
        rw [delC_at hj (by rw [hcs]; exact hfit) hnl]
        have hrl : r < o.length := by
          have := (List.getElem?_eq_some_iff.1 hy).1
          rw [erO_len hj] at this; exact this
        rw [erO_at hj] at hy
        by_cases c1 : r < j
        · rw [if_pos c1] at hy
          rw [if_pos (by omega), Array.getElem?_toList]
          exact rowc r y hy jj tc htc
        · rw [if_neg c1] at hy
          rw [if_neg (by omega)]
          by_cases c2 : r < o.length - 1
          · rw [if_pos c2] at hy
            rw [if_pos (by omega), show r * 5 + jj - j * 5 = (r - j) * 5 + jj by omega, flatO_at hjw, List.getElem?_drop, show j + 1 + (r - j) = r + 1 by omega, hy]
            exact cellsO5_at htc
          · rw [if_neg c2, if_pos (by omega)] at hy
            rw [if_neg (by omega), if_pos (by omega)]
            cases hy
            have := cellsO5_at (V := V) (r := ⟨0, []⟩) htc
            rw [← this]
            rcases jj with _ | _ | _ | _ | _ | jj <;> first | rfl | omega)
    have hput := hrep.put (t := t) (v := .vw ⟨k, [(i, 0)]⟩ 5 0 (o.length - 1) none) hT (by simp only [okV, Nat.blt_eq]; exact hkn)
    have hden : den V (.vw ⟨k, [(i, 0)]⟩ 5 0 (o.length - 1) none) = .slice (some ⟨blk, off, none⟩) (o.length - 1) (V ⟨k, [(i, 0)]⟩).cap := by
      have hcz : (V ⟨k, [(i, 0)]⟩).cap ≠ 0 := by omega
      simp only [den, Loc.hd, Loc.vw, Option.getD_none, Nat.sub_zero, if_neg hcz, z1, Option.map_some, Nat.zero_mul]
      rfl
    rw [hden] at hput
    exact ⟨V, hput⟩⟩
def ridR (k nb : Nat) : Rid → Rid
  | ⟨k', []⟩ => match Nat.beq k' k with
    | true => ⟨nb, []⟩
    | false => ⟨k', []⟩
  | ⟨k', p⟩ => ⟨k', p⟩
def shrV (V : Vl) (k i m : Nat) (p : Path) : Loc := if p = [(i, 0)] then ⟨(V ⟨k, p⟩).a, m, (V ⟨k, p⟩).cap⟩ else V ⟨k, p⟩
theorem shrV_b {V : Vl} {k i m : Nat} {p : Path} : (shrV V k i m p).b = (V ⟨k, p⟩).b := by unfold shrV; split <;> rfl
theorem shrV_cap {V : Vl} {k i m : Nat} {p : Path} : (shrV V k i m p).cap = (V ⟨k, p⟩).cap := by unfold shrV; split <;> rfl
theorem shrV_n {V : Vl} {k i m : Nat} {p : Path} (h : p ≠ [(i, 0)]) : shrV V k i m p = V ⟨k, p⟩ := if_neg h
theorem ridR_ok {V : Vl} {k i m nb : Nat} (hk : k < nb) : RidOk (V.ext nb (shrV V k i m)) (nb + 1) (ridR k nb) := by
  have key : ∀ r : Rid, r.k < nb + 1 → (V.ext nb (shrV V k i m)) (ridR k nb r) = (V.ext nb (shrV V k i m)) r ∧ (ridR k nb r).k < nb + 1 := by
    rintro ⟨k', p⟩ hr
    cases p with
    | nil =>
      cases h : Nat.beq k' k with
      | true =>
        have e := Nat.eq_of_beq_eq_true h
        subst e
        have e2 : ridR k' nb ⟨k', []⟩ = ⟨nb, []⟩ := by simp only [ridR, h]
        rw [e2]
        refine ⟨?_, Nat.lt_succ_self _⟩
        rw [Vl.ext_new, shrV_n (by simp)]
        exact (if_neg (by show ¬ k' = nb; omega)).symm
      | false =>
        have e2 : ridR k nb ⟨k', []⟩ = ⟨k', []⟩ := by simp only [ridR, h]
        rw [e2]
        exact ⟨rfl, hr⟩
    | cons ab q => exact ⟨rfl, hr⟩
  exact ⟨fun r hr => (key r hr).1, fun r hr => (key r hr).2⟩
theorem step_shr {x : Cx} (hL : LayOk x.P x.L) {s : St} {T : TypeId} {p y : Operand} {ty : TypeId} {pos : String} {after : Array Edge} {gd : Option (Nat × Bool)} {k i m : Nat} {l : List Blk} {ti : TI}
    (hp : s.get p = some (.el ⟨k, []⟩ 3 i 0)) (hy : s.get y = some (.vw ⟨k, [(i, 0)]⟩ 5 0 m none)) (hT : find x.L T = some ti) (hz : ti.zs.length = 1) (hm : find s.mem k = some (.list .own .block l)) (hi : i < l.length) (hml : m ≤ (gt (c := .block) l i).ops.length) (hm0 : 0 < (gt (c := .block) l i).ops.length) :
    StepTo x s ⟨none, .store T p y, ty, pos, after, gd⟩ ⟨envT (ridR k s.nb) s.env, memT (ridR k s.nb) ((s.nb, .list .own .block (stO l i ((gt (c := .block) l i).ops.take m))) :: killL [k] s.mem), s.nb + 1⟩ :=
  ⟨fun g V ac w Q hr => by
    have hpa : desc .block l [(i, 0)] = some ⟨.op, (gt (c := .block) l i).ops⟩ := desc_mk (c := .block) (gt_at (c := .block) hi) (j := 0) rfl rfl
    have hcn : cont s.mem ⟨k, [(i, 0)]⟩ = some (.list .own .op (gt (c := .block) l i).ops) := cont_iff.2 ⟨_, hm, by simp only [contB, hpa]; rfl⟩
    have hc : cont s.mem ⟨k, []⟩ = some (.list .own .block l) := cont_iff.2 ⟨_, hm, rfl⟩
    have hkn := (hr.ents.ok _ _ hm).1
    obtain ⟨n1, n2, n3, n4⟩ := hr.ents.at_ _ _ hcn
    obtain ⟨q1, q2, q3, q4⟩ := hr.ents.at_ _ _ hc
    obtain ⟨ad, cs, tt, b1, b2, b3, b4, b5⟩ : ∃ a cs t, (V ⟨k, []⟩).a = some a ∧ a.spot = none ∧ w.heap[a.block]? = some (.cells cs t) ∧ a.off + (V ⟨k, []⟩).cap * 3 ≤ cs.size ∧ (V ⟨k, []⟩).cap ≤ maxLen := by
      rcases q3 rfl with h | h
      · omega
      · exact h
    obtain ⟨ii, g1, g2, g3, _⟩ := (hL.at hT).info
    have hzl : ti.zero.length = 1 := by rw [TI.zero_len, hz]
    have hcap : (V ⟨k, [(i, 0)]⟩).cap ≠ 0 := by omega
    have hval : den V (.vw ⟨k, [(i, 0)]⟩ 5 0 m none) = .slice (V ⟨k, [(i, 0)]⟩).a m (V ⟨k, [(i, 0)]⟩).cap := by
      simp only [den, Loc.hd, Loc.vw, Option.getD_none, Nat.sub_zero, if_neg hcap, Nat.zero_mul]
      cases (V ⟨k, [(i, 0)]⟩).a <;> simp [Addr.add]
    have hfit : ad.off + i * 3 + 1 ≤ cs.size := by
      have : (i + 1) * 3 ≤ (V ⟨k, []⟩).cap * 3 := Nat.mul_le_mul_right _ (by omega)
      omega
    generalize hu : den V (.vw ⟨k, [(i, 0)]⟩ 5 0 m none) = u at hval
    let cs' := (cs.toList.take (ad.off + i * 3) ++ [u] ++ cs.toList.drop (ad.off + i * 3 + 1)).toArray
    have hcells : u.cells = #[u] := by rw [hval]; rfl
    have run : (Instr.storeAt T (den V (.el ⟨k, []⟩ 3 i 0)) u).run x.P w = .ok () (w.setRow ad.block cs') := by
      simp only [Instr.storeAt, den, Loc.at, b1, Option.map_some, Instr.sureAddr, Sem.run_bind, Sem.run_pure, Result.andThen_ok, storeVar, r_sizeOf g1, hcells]
      rw [if_neg (by simp [g2, hzl])]
      have := run_storeCells_at (P := x.P) ad.block (ad.off + i * 3) tt [u] 0 cs w b3 (by simp; omega) (by intro v hv; rw [List.mem_singleton.1 hv, hval]; rfl)
      simp only [Nat.add_zero] at this ⊢
      exact this
    have hsz : cs'.size = cs.size := by
      simp only [cs', List.size_toArray, List.length_append, List.length_take, List.length_drop, Array.length_toList, List.length_cons, List.length_nil]
      omega
    have hcell : ∀ o, cs'[o]? = if o = ad.off + i * 3 then some u else cs[o]? := by
      intro o
      simp only [cs', List.getElem?_toArray]
      by_cases h1 : o < ad.off + i * 3
      · rw [if_neg (by omega), List.append_assoc, List.getElem?_append_left (by simp; omega), List.getElem?_take, if_pos h1]; simp
      · by_cases h2 : o = ad.off + i * 3
        · rw [if_pos h2, List.append_assoc, List.getElem?_append_right (by simp; omega)]
          have : o - (List.take (ad.off + i * 3) cs.toList).length = 0 := by simp; omega
          rw [this]; rfl
        · rw [if_neg h2, List.getElem?_append_right (by simp; omega), List.getElem?_drop]
          simp only [Array.getElem?_toList]
          congr 1
          simp; omega
    have hh := setRow_heap w ad.block cs cs' tt (0, 0) b3
    have other : ∀ b, b ≠ ad.block → (w.setRow ad.block cs').heap[b]? = w.heap[b]? := fun b hb => setRow_other w ad.block b _ hb
    have hbl : (V ⟨k, []⟩).b = ad.block := by unfold Loc.b; rw [b1]
    have hlive : liveB (V ⟨k, []⟩) (.list .own .block l) := by simp only [liveB]; omega
    have far : ∀ r b, cont s.mem r = some b → liveB (V r) b → r ≠ ⟨k, []⟩ → (w.setRow ad.block cs').heap[(V r).b]? = w.heap[(V r).b]? := by
      intro r b hcr hl hne
      refine other _ fun he => hne ?_
      exact (hr.ents.sep ⟨k, []⟩ r _ b hc hcr hlive hl rfl (by rw [hbl, he])).symm
    have old : ∀ q b', contB (.list .own .block (stO l i ((gt (c := .block) l i).ops.take m))) q = some b' → ∃ (c2 : Ty) (l2 l2' : List (El c2)), b' = .list .own c2 l2' ∧ cont s.mem ⟨k, q⟩ = some (.list .own c2 l2) ∧
        ((q = [] ∧ (⟨c2, l2'⟩ : (c : Ty) × List (El c)) = ⟨.block, stO l i ((gt (c := .block) l i).ops.take m)⟩) ∨ (q = [(i, 0)] ∧ (⟨c2, l2'⟩ : (c : Ty) × List (El c)) = ⟨.op, (gt (c := .block) l i).ops.take m⟩) ∨ (q ≠ [] ∧ q ≠ [(i, 0)] ∧ l2' = l2)) := by
      intro q b' h
      simp only [contB] at h
      split at h
      · rename_i c2 l2' hd
        cases h
        rcases stO_desc hi hd with ⟨rfl, e⟩ | ⟨rfl, e⟩ | ⟨e1, e2, e⟩
        · cases e
          exact ⟨.block, l, _, rfl, hc, .inl ⟨rfl, rfl⟩⟩
        · cases e
          exact ⟨.op, _, _, rfl, hcn, .inr (.inl ⟨rfl, rfl⟩)⟩
        · exact ⟨c2, l2', l2', rfl, cont_iff.2 ⟨_, hm, by simp only [contB, e]; rfl⟩, .inr (.inr ⟨e1, e2, rfl⟩)⟩
      · cases h
    let V' := V.ext s.nb (shrV V k i m)
    have vn : ∀ p, V' ⟨s.nb, p⟩ = shrV V k i m p := fun p => Vl.ext_new
    have ag : AgrB s.nb V' V := Vl.ext_agr
    have hE := hr.ents.turn (w' := w.setRow ad.block cs') (V' := V') (m := .list .own .block (stO l i ((gt (c := .block) l i).ops.take m))) (ks := [k]) s.env ag rfl (fun k1 h1 => by rw [List.mem_singleton.1 h1]; exact hkn) (fun p => some ⟨k, p⟩)
      (fun r b hcr hl hk => far r b hcr hl fun e => hk (by rw [e]; exact List.mem_singleton.2 rfl))
      (fun p b' hb hl => by
        obtain ⟨c2, l2, l2', rfl, e1, _⟩ := old p b' hb
        refine .inr ⟨⟨k, p⟩, _, rfl, e1, ?_, by rw [vn, shrV_b], trivial, .inl (List.mem_singleton.2 rfl)⟩
        rw [vn] at hl
        simp only [liveB] at hl ⊢
        rw [shrV_cap] at hl; exact hl)
      (fun p1 p2 b1 b2 _ _ _ _ _ he => by cases he; rfl)
      (fun p b' hb => by
        obtain ⟨c2, l2, l2', rfl, e1, e2⟩ := old p b' hb
        rcases e2 with ⟨rfl, e⟩ | ⟨rfl, e⟩ | ⟨ne1, ne2, rfl⟩
        · cases e
          have v0 : V' ⟨s.nb, []⟩ = V ⟨k, []⟩ := by rw [vn, shrV_n (by simp)]
          refine ⟨by rw [v0, stO_len]; exact q1, by rw [v0, stO_len]; exact q2, fun _ => by rw [v0]; exact .inr ⟨ad, cs', tt, b1, b2, hh, by rw [hsz]; exact b4, b5⟩, fun a' x' hx' j t' ht' => ?_⟩
          refine ⟨ad, by rw [v0]; exact b1, b2, cell_of hh ?_⟩
          have hjw : j < 3 := (List.getElem?_eq_some_iff.1 ht').1
          show cs'[ad.off + (a' * 3 + j)]? = _
          rw [hcell]
          by_cases hs : a' = i ∧ j = 0
          · obtain ⟨rfl, rfl⟩ := hs
            rw [if_pos (by omega)]
            unfold stO at hx'
            rw [List.getElem?_set_self hi] at hx'
            cases hx'
            cases ht'
            show some u = some (V' ⟨s.nb, [(a', 0)]⟩).hd
            rw [vn, hval]
            unfold shrV
            rw [if_pos rfl]; rfl
          · rw [if_neg (fun he => hs (by omega))]
            have hold : ∃ x0, l[a']? = some x0 ∧ (tcells .block x0)[j]? = some t' := by
              unfold stO at hx'
              by_cases ea : a' = i
              · subst ea
                rw [List.getElem?_set_self hi] at hx'
                cases hx'
                refine ⟨_, gt_at (c := .block) hi, ?_⟩
                rcases j with _ | _ | _ | j
                · exact absurd ⟨rfl, rfl⟩ hs
                · exact ht'
                · exact ht'
                · omega
              · rw [List.getElem?_set_ne (Ne.symm ea)] at hx'
                exact ⟨x', hx', ht'⟩
            obtain ⟨x0, h1, h2⟩ := hold
            obtain ⟨ad2, y1, y2, y3⟩ := q4 a' x0 h1 j t' h2
            rw [b1] at y1
            cases y1
            simp only [World.cell?, b3, Option.isSome_none, Bool.false_eq_true, if_false] at y3
            rw [show cs[ad.off + (a' * 3 + j)]? = _ from y3]
            cases t' with
            | sl c3 l3 =>
              show some (V ⟨k, [(a', j)]⟩).hd = some (V' ⟨s.nb, [(a', j)]⟩).hd
              rw [vn, shrV_n (fun e => hs (by simp at e; exact e))]
            | _ => rfl
        · cases e
          have va : (V' ⟨s.nb, [(i, 0)]⟩).a = (V ⟨k, [(i, 0)]⟩).a := by rw [vn]; unfold shrV; rw [if_pos rfl]
          have vc : (V' ⟨s.nb, [(i, 0)]⟩).cap = (V ⟨k, [(i, 0)]⟩).cap := by rw [vn, shrV_cap]
          have vl : (V' ⟨s.nb, [(i, 0)]⟩).len = m := by rw [vn]; unfold shrV; rw [if_pos rfl]
          have hlk : ((gt (c := .block) l i).ops.take m).length = m := by rw [List.length_take]; omega
          have hln : liveB (V ⟨k, [(i, 0)]⟩) (.list .own .op (gt (c := .block) l i).ops) := hcap
          have hfar := far ⟨k, [(i, 0)]⟩ _ hcn hln (by simp)
          refine ⟨by rw [vl, hlk], by rw [hlk, vc]; omega, fun _ => ?_, fun a' x' hx' j t' ht' => ?_⟩
          · rcases n3 rfl with h | ⟨a3, cs3, t3, z1, z2, z3, z4, z5⟩
            · exact absurd h hcap
            · unfold Loc.b at hfar
              rw [z1] at hfar
              exact .inr ⟨a3, cs3, t3, va.trans z1, z2, hfar.trans z3, by rw [vc]; exact z4, by rw [vc]; exact z5⟩
          · have hx0 : (gt (c := .block) l i).ops[a']? = some x' := by
              rw [List.getElem?_take] at hx'
              split at hx'
              · exact hx'
              · cases hx'
            obtain ⟨ad2, y1, y2, y3⟩ := n4 a' x' hx0 j t' ht'
            unfold Loc.b at hfar
            rw [y1] at hfar
            refine ⟨ad2, va.trans y1, y2, ?_⟩
            rw [cell_heap hfar]
            refine y3.trans (congrArg some ?_)
            cases t' with
            | sl c3 l3 => exact (op_noSl ht').elim
            | _ => rfl
        · refine (hr.ents.at_ _ _ e1).move (by rw [vn, shrV_n ne2]) (fun i' j' => ?_) (fun h => h) (fun hl => far _ _ e1 hl (by simp [ne1]))
          show V' ⟨s.nb, p ++ [(i', j')]⟩ = V ⟨k, p ++ [(i', j')]⟩
          rw [vn, shrV_n]
          intro e
          have := congrArg List.length e
          simp at this
          exact ne1 this) hr.d0w
    unfold Oper.wp
    have hrun : (execOp ac.eval ⟨none, .store T p y, ty, pos, after, gd⟩).run x.P w = .ok .skip (w.setRow ad.block cs') := by
      simp only [execOp, hr.env.get hp, hr.env.get hy, hu, Sem.run_bind, run, Result.andThen_ok, Sem.run_pure]
    rw [hrun]
    have hrep := hr.turn (V' := V') (by rw [setRow_size]; exact Nat.le_refl _) ag (fun k1 h1 => by rw [List.mem_singleton.1 h1]; exact hkn) hE ⟨rfl, rfl, rfl⟩
      (fun b hb hd => other _ fun he => hd ⟨⟨k, []⟩, _, hc, hlive, rfl, by rw [hbl, he]⟩)
      (fun p b' hb hl hk => by
        obtain ⟨c2, l2, l2', rfl, e1, _⟩ := old p b' hb
        refine .inr ⟨⟨k, p⟩, _, e1, ?_, rfl, by rw [vn, shrV_b]⟩
        rw [vn] at hl
        simp only [liveB] at hl ⊢
        rw [shrV_cap] at hl; exact hl)
    exact ⟨_, hrep.T (ridR_ok hkn)⟩⟩
end Go.Proofs.Ytonjbhdfimcedaa
namespace Go.Proofs.Ytonjbhdfimcedaa
open Go.RowKit
def callX (gf : FuncId) (av ex exq : List SV) (pm : List (Nat × MB)) (p : Nat) (all : List Oper) (o : Oper) (s : St) : CallO := match o.op with
  | .call ⟨.value f, args, _⟩ => match goes all s.env o.guard, s.get f with
    | some true, some (.clo g0 _) => match Nat.beq g0 gf with
      | true => match convE pm (slotsE args.toList av) s [] with
        | some (s1, o1) => match convP pm (slotsE args.toList av) s1 o1 with
          | some (s2, o2) => match argsS s2 args.toList, s2.get f with
            | some q, some (.clo g' caps) => mt2 (mtV pm s2.mem 12) (app av ex) (app (app q caps) exq) [] fun σ => match renL σ av, memB true σ p s2 pm with
              | some av', some (o3, owns, reads) => match eqL av' (app q caps), chkB s2.nb p gf g' σ owns reads with
                | some o4, true => plK owns fun owns => some (app o4 (app o3 o2), σ, owns, s2)
                | _, _ => none
              | _, _ => none
            | _, _ => none
          | none => none
        | none => none
      | false => none
    | _, _ => none
  | _ => none
theorem callX_ok {x : Cx} {gf : FuncId} {av : List SV} {pm : List (Nat × MB)} {p : Nat} {all : List Oper} {o : Oper} {s : St} {ex exq : List SV} {o2 : List Prop} {σ : Sg} {owns : List Nat} {s2 : St} (hc : callX gf av ex exq pm p all o s = some (o2, σ, owns, s2)) (ho2 : AllP o2) : ∃ f args ts caps q reads o3, CallK x gf av pm p all o s σ owns s2 f args ts caps q reads o3 := by
  unfold callX at hc
  split at hc
  · rename_i f args ts hop
    split at hc
    · rename_i g0 caps0 hg hf
      split at hc
      · split at hc
        · rename_i s1 o1 h1
          split at hc
          · rename_i s2' o2' h2
            split at hc
            · rename_i q g' caps hq hf2
              have key := mt2_ok (f := mtV pm s2'.mem 12) (P := fun y => y = some (o2, σ, owns, s2)) (fun a b τ k h => mtV_ok (tm := pm) (sm := s2'.mem) (n := 12) (P := fun y => y = some (o2, σ, owns, s2)) h) hc
              clear hc
              obtain ⟨σ', hc'⟩ := key
              split at hc'
              · rename_i av' o3 owns' reads has hm
                split at hc'
                · rename_i o4 he hchk
                  simp only [chkB, Bool.and_eq_true] at hchk
                  obtain ⟨hn, hni, hok, hkl, hcv, hlt, hgf⟩ := hchk
                  have := Nat.eq_of_beq_eq_true hgf
                  subst this
                  rw [plK_eq] at hc'
                  simp only [Option.some.injEq, Prod.mk.injEq] at hc'
                  obtain ⟨rfl, rfl, rfl, rfl⟩ := hc'
                  obtain ⟨p1, p2⟩ := AllP_app.1 ho2
                  obtain ⟨p3, p4⟩ := AllP_app.1 p2
                  obtain ⟨q1, q2⟩ := convP_ok (x := x) h2 p4
                  obtain ⟨_, q4⟩ := convE_ok (x := x) h1 q1
                  exact ⟨f, args, ts, caps, q, reads, o3, hop, hg, q4.trans q2, hq, hf2, hm, p3, fun V => by rw [renL_den V has, eqL_den V he p1, app_eq], hn, hni, hok, hkl, hcv, hlt⟩
                · cases hc'
              · cases hc'
            · cases hc
          · cases hc
        · cases hc
      · cases hc
    · cases hc
  · cases hc
section
variable {x : Cx} {Q : Exit → St → Prop} {obs : List Prop} {K : List Kf} {all l : List Oper} {o : Oper} {s : St}
theorem g_callX (hL : LayOk x.P x.L) (n : Nat) (ex exq : List SV) {gf : FuncId} {av : List SV} {pm : List (Nat × MB)} {p : Nat} {Z : Type} {ψ : Z → Prop} {res : Z → SV} {post : Z → St} {o2 : List Prop} {σ : Sg} {owns : List Nat} {s2 : St} (ho : AllP obs) (ho2 : AllP o2)
    (hk : ∀ z, ψ z → Good x Q (aftR x.n σ p owns (res z) (post z) o.dst s2 fun s' => run x n [] (.ops all l) K s')) (T : Trip x.P gf av ⟨[], pm, p⟩ ψ res post) (hc : callX gf av ex exq pm p all o s = some (o2, σ, owns, s2)) : Good x Q (.ops obs all (o :: l) K s) := by
  refine ⟨ho, ⟨fun g Q0 V0 a w hQ hr0 => ?_⟩⟩
  obtain ⟨f, args, ts, caps, q, reads, o3, C⟩ := callX_ok (x := x) hc ho2
  obtain ⟨V, hr⟩ := C.tow.run g V0 a w hr0
  have hgoes := goes_wanted C.goes hr0.env
  obtain ⟨e1, e2, e3⟩ := memB_ok (e := []) (nb := p) hr.ents C.mem C.n1 C.n2 C.obs hr.d0w
  have hE1 : Ents (fun b => g.D0 b ∨ (Dl V s2.mem b ∧ ¬ Dl (σ.vl V) pm b)) (σ.vl V) ⟨[], pm, p⟩ w := by
    refine ⟨e1.ok, e1.at_, e1.sep, fun r b hcb hl hk hd => ?_⟩
    rcases hd with hd | ⟨hd1, hd2⟩
    · exact e1.d0 r b hcb hl hk hd
    · cases hkb : kindB b with
      | own => exact hd2 ⟨r, b, hcb, hl, hkb, rfl⟩
      | fz => exact e3 rfl r b hcb hl hkb hd1
      | tmp => exact hk hkb
  have hC := T.runs (σ.vl V) _ w hE1 (fun b hb => by
    rcases hb with hb | ⟨⟨r, y, h1, h2, h3, h4⟩, _⟩
    · exact hr.d0w b hb
    · rw [← h4]; exact hr.ents.lt h1 h2)
  obtain ⟨dst, op, ty, pos, after, gd⟩ := o
  have hop : op = .call ⟨.value f, args, ts⟩ := C.op
  subst hop
  have hfv : a.eval f = .func (.func gf) #[] (denL V caps).toArray := hr.env.get C.fn
  have hav : args.map a.eval = (denL V q).toArray := args_arr hr.env C.arg
  have harg : (denL V q).toArray ++ (denL V caps).toArray = (denL (σ.vl V) av).toArray := by
    rw [C.eq, denL_append]; simp
  have hrun := run_call (P := x.P) (w := w) (dst := dst) (ts := ts) (ty := ty) (pos := pos) (after := after) (guard := gd) T.can hfv hav
  rw [harg] at hrun
  unfold wpList
  rw [if_pos hgoes]
  refine .inl ?_
  unfold Oper.wp
  rw [hrun]
  refine hC.mono fun e w' ⟨z, V', hz, hev, hou, hpn, hag, hE', hfr, hfresh⟩ => ?_
  subst hev
  have hgood := hk z hz
  obtain ⟨env, mem, nb⟩ := s2
  cases hpost : post z with
  | mk te tm tn =>
    rw [hpost] at hgood hE' hou hpn hfresh
    obtain ⟨u, mm, hle, hkeys, hu, hmm, hokm, hoku, hfin⟩ := aftR_ok hgood
    have hcov := coverB_spec C.n5
    have hrep := hr.call (t' := ⟨te, tm, tn⟩) (c := tn - p) (N := nb + (tn - p)) C.mem C.n1 C.n2 C.obs C.n3 (keysLt_spec C.n4) hcov hE' hag hfr hfresh (by simp only; omega) hmm hkeys rfl hokm (ltAll_spec C.n6)
    have hden : den (mixV V V' nb p) u = den V' (res z) := by
      rw [← ren_den (mixV V V' nb p) hu]
      refine (den_agree (nb := tn) (fun r hrk => ?_) _ hou)
      exact mix_vl (c := tn - p) C.n3 (keysLt_spec C.n4) hcov hag r (by omega)
    rcases hfin with ⟨t, rfl, ht, hg⟩ | ⟨rfl, hg⟩
    · have hk2 := (run_ok hL hg).2
      have hput := hrep.put (t := t) (v := u) ht hoku
      rw [hden] at hput
      exact hk2.run g Q0 _ _ w' hQ hput
    · exact (run_ok hL hg).2.run g Q0 _ _ w' hQ hrep
end
section
variable {n kb : Nat} {Q : Exit → St → Prop} {obs : List Prop} {K : List Kf} {all lo : List Oper} {env : List (Nat × SV)} {mem : List (Nat × MB)} {nb : Nat}
theorem g_del (fuel : Nat) {f a b c : Operand} {ts : Array TypeId} {t : Nat} {ty : TypeId} {pos : String} {after : Array Edge} {gd : Option (Nat × Bool)} {k i j : Nat} {l : List Blk} (ho : AllP obs) (hg : goes all env gd = some true)
    (hf : St.get ⟨env, mem, nb⟩ f = some (.clo 99 [])) (ha : St.get ⟨env, mem, nb⟩ a = some (.sl ⟨k, [(i, 0)]⟩)) (hb : St.get ⟨env, mem, nb⟩ b = some (.int .i64 (j : Int))) (hc : St.get ⟨env, mem, nb⟩ c = some (.int .i64 ((j : Int) + 1))) (hm : find mem k = some (.list .own .block l)) (hT : Nat.blt t n = true)
    (hi : i < l.length) (hj : j < (gt (c := .block) l i).ops.length)
    (hk : Good ⟨Try.prog, lay, n, kb⟩ Q (run ⟨Try.prog, lay, n, kb⟩ fuel [] (.ops all lo) K ⟨(t, (.vw ⟨k, [(i, 0)]⟩ 5 0 ((gt (c := .block) l i).ops.length - 1) none)) :: env, (k, .list .own .block (stO l i (erO (gt (c := .block) l i).ops j))) :: mem, nb⟩)) :
    Good ⟨Try.prog, lay, n, kb⟩ Q (.ops obs all (⟨some t, .call ⟨.value f, #[a, b, c], ts⟩, ty, pos, after, gd⟩ :: lo) K ⟨env, mem, nb⟩) := by
  have h := step_del (n := n) (kb := kb) (s := ⟨env, mem, nb⟩) (ts := ts) (t := t) (ty := ty) (pos := pos) (after := after) (gd := gd) hf ha hb hc hm hi hj hT
  exact ⟨ho, sq_step hg h (run_ok lay_ok hk).2⟩
end
section
variable {x : Cx} {Q : Exit → St → Prop} {obs : List Prop} {K : List Kf} {all lo : List Oper} {env : List (Nat × SV)} {mem : List (Nat × MB)} {nb : Nat}
theorem g_shr (hL : LayOk x.P x.L) (fuel : Nat) {T : TypeId} {p y : Operand} {ty : TypeId} {pos : String} {after : Array Edge} {gd : Option (Nat × Bool)} {k i m : Nat} {l : List Blk} {ti : TI} (ho : AllP obs) (hg : goes all env gd = some true)
    (hp : St.get ⟨env, mem, nb⟩ p = some (.el ⟨k, []⟩ 3 i 0)) (hy : St.get ⟨env, mem, nb⟩ y = some (.vw ⟨k, [(i, 0)]⟩ 5 0 m none)) (hT : find x.L T = some ti) (hz : Nat.beq ti.zs.length 1 = true) (hm : find mem k = some (.list .own .block l)) (hi : i < l.length) (hml : m ≤ (gt (c := .block) l i).ops.length) (hm0 : 0 < (gt (c := .block) l i).ops.length)
    (hk : Good x Q (killP [k] mem fun mem1 => memTP (ridR k nb) ((nb, .list .own .block (stO l i ((gt (c := .block) l i).ops.take m))) :: mem1) fun mem2 => envTP (ridR k nb) env fun env2 => nx nb fun nb' => run x fuel [] (.ops all lo) K ⟨env2, mem2, nb'⟩)) :
    Good x Q (.ops obs all (⟨none, .store T p y, ty, pos, after, gd⟩ :: lo) K ⟨env, mem, nb⟩) := by
  simp only [killP_eq, memTP_eq, envTP_eq, nx_eq] at hk
  exact ⟨ho, sq_step hg (step_shr hL (s := ⟨env, mem, nb⟩) hp hy hT (Nat.eq_of_beq_eq_true hz) hm hi hml hm0) (run_ok hL hk).2⟩
end
end Go.Proofs.Ytonjbhdfimcedaa
namespace Go.Proofs.Ytonjbhdfimcedaa
open Go.RowKit
def setsB (o : Op_) : Bool := decide (1 ≤ o.kind ∧ o.kind ≤ 4)
def deadO (n : List Bool) (o : Op_) : Bool := setsB o && !(bg n o.dst.toNat)
def delS (e : List Bool) : List Op_ → List Op_ × List Bool
  | [] => ([], e)
  | o :: l => if deadO (delS e l).2 o = true then delS e l else (o :: (delS e l).1, intoN (delS e l).2 o)
theorem delS_len {e : List Bool} : ∀ {l : List Op_}, (delS e l).1.length ≤ l.length ∧ (delS e l).2.length = e.length
  | [] => ⟨Nat.le_refl _, rfl⟩
  | o :: l => by
    have ih := delS_len (e := e) (l := l)
    show (if _ then _ else _ : List Op_ × List Bool).1.length ≤ _ ∧ (if _ then _ else _ : List Op_ × List Bool).2.length = _
    split
    · exact ⟨Nat.le_succ_of_le ih.1, ih.2⟩
    · exact ⟨Nat.succ_le_succ ih.1, by rw [intoN_len]; exact ih.2⟩
theorem drop_op {l : List Op_} {y : Nat} (h : y < l.length) : l.drop y = gt (c := .op) l y :: l.drop (y + 1) := by
  rw [List.drop_eq_getElem_cons h, gt_eq (c := .op) (List.getElem?_eq_getElem h)]
theorem delS_y {e : List Bool} {l : List Op_} {y : Nat} (h : y < l.length) (hd : deadO (delS e (l.drop (y + 1))).2 (gt (c := .op) l y) = true) : delS e (l.drop y) = delS e (l.drop (y + 1)) := by
  rw [drop_op h]
  show (if _ then _ else _ : List Op_ × List Bool) = _
  rw [if_pos hd]
theorem delS_n {e : List Bool} {l : List Op_} {y : Nat} (h : y < l.length) (hd : deadO (delS e (l.drop (y + 1))).2 (gt (c := .op) l y) = false) :
    delS e (l.drop y) = (gt (c := .op) l y :: (delS e (l.drop (y + 1))).1, intoN (delS e (l.drop (y + 1))).2 (gt (c := .op) l y)) := by
  rw [drop_op h]
  show (if _ then _ else _ : List Op_ × List Bool) = _
  rw [if_neg (by rw [hd]; decide)]
theorem delS_end {e : List Bool} {l : List Op_} : delS e (l.drop l.length) = ([], e) := by rw [List.drop_length]; rfl
def curO (e : List Bool) (l : List Op_) (z : Nat) : List Op_ := l.take z ++ (delS e (l.drop z)).1
theorem curO_end {e : List Bool} {l : List Op_} : curO e l l.length = l := by unfold curO; rw [delS_end, List.take_length, List.append_nil]
theorem curO_0 {e : List Bool} {l : List Op_} : curO e l 0 = (delS e l).1 := rfl
theorem curO_len {e : List Bool} {l : List Op_} {z : Nat} (h : z ≤ l.length) : z ≤ (curO e l z).length ∧ (curO e l z).length ≤ l.length := by
  unfold curO
  have h1 := (delS_len (e := e) (l := l.drop z)).1
  rw [List.length_drop] at h1
  rw [List.length_append, List.length_take]
  omega
theorem curO_at {e : List Bool} {l : List Op_} {z y : Nat} (h : y < z) (hz : z ≤ l.length) : gt (c := .op) (curO e l z) y = gt (c := .op) l y := by
  refine gt_eq (c := .op) ?_
  unfold curO
  rw [List.getElem?_append_left (by rw [List.length_take]; omega), List.getElem?_take, if_pos h]
  exact gt_at (c := .op) (by omega)
theorem curO_y {e : List Bool} {l : List Op_} {y : Nat} (h : y < l.length) (hd : deadO (delS e (l.drop (y + 1))).2 (gt (c := .op) l y) = true) : (curO e l (y + 1)).eraseIdx y = curO e l y := by
  unfold curO
  rw [delS_y h hd, take_snoc (c := .op) h, List.append_assoc]
  have hl : (l.take y).length = y := by rw [List.length_take]; omega
  rw [List.eraseIdx_append_of_length_le (by omega), hl, Nat.sub_self]
  rfl
theorem curO_n {e : List Bool} {l : List Op_} {y : Nat} (h : y < l.length) (hd : deadO (delS e (l.drop (y + 1))).2 (gt (c := .op) l y) = false) : curO e l (y + 1) = curO e l y := by
  unfold curO
  rw [delS_n h hd, take_snoc (c := .op) h, List.append_assoc]
  rfl
def someD (e : List Bool) (l : List Op_) (z : Nat) : Bool := decide ((delS e (l.drop z)).1.length < l.length - z)
theorem someD_end {e : List Bool} {l : List Op_} : someD e l l.length = false := decide_eq_false (by rw [Nat.sub_self]; exact Nat.not_lt_zero _)
theorem someD_y {e : List Bool} {l : List Op_} {y : Nat} (h : y < l.length) (hd : deadO (delS e (l.drop (y + 1))).2 (gt (c := .op) l y) = true) : someD e l y = true := by
  unfold someD
  rw [delS_y h hd]
  have h1 := (delS_len (e := e) (l := l.drop (y + 1))).1
  rw [List.length_drop] at h1
  exact decide_eq_true (by omega)
theorem someD_n {e : List Bool} {l : List Op_} {y : Nat} (h : y < l.length) (hd : deadO (delS e (l.drop (y + 1))).2 (gt (c := .op) l y) = false) : someD e l y = someD e l (y + 1) := by
  unfold someD
  rw [delS_n h hd, List.length_cons]
  exact decide_eq_decide.2 (by omega)
theorem dead_t {n : List Bool} {o : Op_} (h : o.kind = 1 ∨ o.kind = 2 ∨ o.kind = 3 ∨ o.kind = 4) (h2 : gt (c := .bool) n o.dst.toNat = false) : deadO n o = true := by
  unfold deadO setsB
  rw [decide_eq_true (by omega), show bg n o.dst.toNat = false from h2]; rfl
theorem dead_f1 {n : List Bool} {o : Op_} (h : ¬ (o.kind = 1 ∨ o.kind = 2 ∨ o.kind = 3 ∨ o.kind = 4)) : deadO n o = false := by
  unfold deadO setsB
  rw [decide_eq_false (by omega)]; rfl
theorem dead_f2 {n : List Bool} {o : Op_} (h2 : gt (c := .bool) n o.dst.toNat = true) : deadO n o = false := by
  unfold deadO
  rw [show bg n o.dst.toNat = true from h2, Bool.not_true, Bool.and_false]
theorem stO_at {l : List Blk} {i : Nat} {o : List Op_} (h : i < l.length) : gt (c := .block) (stO l i o) i = ⟨o, (gt (c := .block) l i).cond, (gt (c := .block) l i).next⟩ := gt_eq (c := .block) (by unfold stO; rw [List.getElem?_set_self h])
theorem stO_ops {l : List Blk} {i : Nat} {o : List Op_} (h : i < l.length) : (gt (c := .block) (stO l i o) i).ops = o := by rw [stO_at h]
theorem stO_stO {l : List Blk} {i : Nat} {o p : List Op_} (h : i < l.length) : stO (stO l i o) i p = stO l i p := by
  show (stO l i o).set i _ = _
  rw [stO_at h]
  show (l.set i _).set i _ = _
  rw [List.set_set]; rfl
theorem stO_self {l : List Blk} {i : Nat} (h : i < l.length) : stO l i (gt (c := .block) l i).ops = l := by
  show l.set i (gt (c := .block) l i) = l
  rw [gt_eq (c := .block) (List.getElem?_eq_getElem h)]; exact List.set_getElem_self h
theorem take_erO {o : List Op_} {j : Nat} (h : j < o.length) : (erO o j).take (o.length - 1) = o.eraseIdx j := by
  unfold erO
  have hl := List.length_eraseIdx_of_lt h
  rw [List.take_append_of_le_length (by omega), ← hl, List.take_length]
theorem stO_del {l : List Blk} {i j : Nat} {o : List Op_} (h : i < l.length) (hj : j < o.length) :
    stO (stO (stO l i o) i (erO (gt (c := .block) (stO l i o) i).ops j)) i (List.take ((gt (c := .block) (stO l i o) i).ops.length - 1) (gt (c := .block) (stO (stO l i o) i (erO (gt (c := .block) (stO l i o) i).ops j)) i).ops) = stO l i (o.eraseIdx j) := by
  rw [stO_ops h, stO_stO h, stO_ops h, stO_stO h, take_erO hj]
def delR (E : List (List Bool)) (l : List Blk) : Nat → List Blk
  | 0 => l
  | z + 1 => stO (delR E l z) z (delS (gt (c := .bools) E z) (gt (c := .block) l z).ops).1
def smR (E : List (List Bool)) (l : List Blk) : Nat → Bool
  | 0 => false
  | z + 1 => smR E l z || someD (gt (c := .bools) E z) (gt (c := .block) l z).ops 0
theorem delR_0 {E : List (List Bool)} {l : List Blk} : delR E l 0 = l := rfl
theorem delR_set {E : List (List Bool)} {l : List Blk} {z : Nat} : (delR E l z).set z (⟨(delS (gt (c := .bools) E z) (gt (c := .block) l z).ops).1, (gt (c := .block) (delR E l z) z).cond, (gt (c := .block) (delR E l z) z).next⟩ : Blk) = delR E l (z + 1) := rfl
theorem delR_s {E : List (List Bool)} {l : List Blk} {z : Nat} : stO (delR E l z) z (delS (gt (c := .bools) E z) (gt (c := .block) l z).ops).1 = delR E l (z + 1) := rfl
theorem smR_0 {E : List (List Bool)} {l : List Blk} : smR E l 0 = false := rfl
theorem smR_s {E : List (List Bool)} {l : List Blk} {z : Nat} : (smR E l z || someD (gt (c := .bools) E z) (gt (c := .block) l z).ops 0) = smR E l (z + 1) := rfl
theorem delR_len {E : List (List Bool)} {l : List Blk} : ∀ {z : Nat}, (delR E l z).length = l.length
  | 0 => rfl
  | z + 1 => by show (stO _ _ _).length = _; rw [stO_len, delR_len]
theorem delR_ge {E : List (List Bool)} {l : List Blk} : ∀ {z i : Nat}, z ≤ i → gt (c := .block) (delR E l z) i = gt (c := .block) l i
  | 0, _, _ => rfl
  | z + 1, i, h => by
    have ih := delR_ge (E := E) (l := l) (z := z) (i := i) (by omega)
    rw [← ih]
    show (stO _ _ _).getD i _ = (delR E l z).getD i _
    unfold stO
    simp only [List.getD_eq_getElem?_getD, List.getElem?_set_ne (show z ≠ i by omega)]
theorem delR_lt {E : List (List Bool)} {l : List Blk} : ∀ {z i : Nat}, i < z → z ≤ l.length → gt (c := .block) (delR E l z) i = ⟨(delS (gt (c := .bools) E i) (gt (c := .block) l i).ops).1, (gt (c := .block) l i).cond, (gt (c := .block) l i).next⟩
  | z + 1, i, h, hz => by
    by_cases e : i = z
    · subst e
      show gt (c := .block) (stO _ _ _) i = _
      rw [stO_at (by rw [delR_len]; omega), delR_ge (Nat.le_refl _)]
    · have ih := delR_lt (E := E) (l := l) (z := z) (i := i) (by omega) (by omega)
      rw [← ih]
      show (stO _ _ _).getD i _ = (delR E l z).getD i _
      unfold stO
      simp only [List.getD_eq_getElem?_getD, List.getElem?_set_ne (show z ≠ i by omega)]
def delG (g : Grf) : Grf := ⟨g.inp, g.vars, g.keep, g.arrs, g.shared, delR (liveL g) g.blks g.blks.length, g.pts, g.hds⟩
def smG (g : Grf) : Bool := smR (liveL g) g.blks g.blks.length
end Go.Proofs.Ytonjbhdfimcedaa
namespace Go.Proofs.Ytonjbhdfimcedaa
open Go.RowKit
attribute [local irreducible] stO erO delS curO someD deadO intoN
set_option maxHeartbeats 4000000 in
set_option maxRecDepth 4000 in
theorem c_useless (g : Grf) (L : List Blk) (i : Nat) (bh : List Bool) (hi : i < L.length) (hL : L.length ≤ 1048576) (hb : bh.length ≤ 1048576) (hol : (gt (c := .block) L i).ops.length ≤ 1048576) (hop : ∀ o ∈ (gt (c := .block) L i).ops, OpL bh.length o) : Trip Try.prog 72 [.el ⟨0, []⟩ 3 i 0, .sl ⟨1, []⟩] ⟨[], [(0, .list .own .block L), (1, .list .tmp .bool bh), (2, .cells [.sl ⟨3, []⟩, .int .i64 g.vars, .int .i64 g.keep, .sl ⟨4, []⟩, .int .i64 g.shared, .sl ⟨0, []⟩, .sl ⟨5, []⟩, .sl ⟨6, []⟩]), (3, .list .own .input g.inp), (4, .list .own .array g.arrs), (5, .list .own .ints g.pts), (6, .list .own .head g.hds)], 7⟩ (Z := Unit) (fun _ => True) (fun _ => .bool (someD bh (gt (c := .block) L i).ops 0)) (fun _ => ⟨[], [(1, .list .tmp .bool bh), (2, .cells [.sl ⟨3, []⟩, .int .i64 g.vars, .int .i64 g.keep, .sl ⟨4, []⟩, .int .i64 g.shared, .sl ⟨7, []⟩, .sl ⟨5, []⟩, .sl ⟨6, []⟩]), (3, .list .own .input g.inp), (4, .list .own .array g.arrs), (5, .list .own .ints g.pts), (6, .list .own .head g.hds), (7, .list .own .block (stO L i (delS bh (gt (c := .block) L i).ops).1))], 8⟩) := by
  have hcl := curO_end (e := bh) (l := (gt (c := .block) L i).ops)
  refine trip_by (rs := [_]) 400 lay_ok Try.func72 rfl (by kernel_rfl) Try.ntmps72 Try.results72 rfl rfl ?_
  repeat' (first | (((with_reducible refine g_id ?_); (conv => arg 3; whnf)); first | (refine g_call lay_ok 400 ?_ ?_ ?_ (c_cln_bool ?_ ?_) rfl) | fail) | ((with_reducible refine o_id ?_); (conv => arg 1; whnf); first | (with_reducible exact o_nil) | (with_reducible refine o_cons ?_ ?_)) | (intro h; ((try simp only [Int.toNat_natCast] at h); repeat (first | replace h := of_decide_eq_true h | fail)); (try (first | contradiction | fail))) | rfl | omega | fail)
  ((with_reducible refine g_id ?_); (conv => arg 3; whnf))
  refine g_loop lay_ok 400 (Z := Nat) (fun z => z ≤ List.length (gt (c := .block) L i).ops) (fun z => ⟨[(0, .el ⟨8, []⟩ 3 i 0), (1, .sl ⟨1, []⟩), (5, .sl ⟨7, []⟩), (6, .bool (someD bh (gt (c := .block) L i).ops z)), (7, .int .i64 ((z : Int) - 1))], [(1, .list .tmp .bool bh), (2, .cells [.sl ⟨3, []⟩, .int .i64 g.vars, .int .i64 g.keep, .sl ⟨4, []⟩, .int .i64 g.shared, .sl ⟨8, []⟩, .sl ⟨5, []⟩, .sl ⟨6, []⟩]), (3, .list .own .input g.inp), (4, .list .own .array g.arrs), (5, .list .own .ints g.pts), (6, .list .own .head g.hds), (7, .list .own .bool (delS bh (List.drop z (gt (c := .block) L i).ops)).2), (8, .list .own .block (stO L i (curO bh (gt (c := .block) L i).ops z)))], 9⟩) (fun z => z) ?_ ⟨List.length (gt (c := .block) L i).ops, Nat.le_refl _, ?_⟩ (fun z hz => ?_)
  · repeat' (first | ((with_reducible refine o_id ?_); (conv => arg 1; whnf); first | (with_reducible exact o_nil) | (with_reducible refine o_cons ?_ ?_)) | omega | fail)
  · ((with_reducible refine s_id ?_); (conv => arg 1; whnf); (with_reducible refine s_some ?_); repeat' (first | ((with_reducible refine o_id ?_); (conv => arg 1; whnf); first | (with_reducible exact o_nil) | (with_reducible refine o_cons ?_ ?_)) | rfl | (exact someD_end) | (rw [delS_end]) | (rw [hcl, stO_self hi]) | fail))
  rcases z with _ | y
  · repeat' (first | (((with_reducible refine g_id ?_); (conv => arg 3; whnf)); first | (with_reducible refine g_cond lay_ok 400 ?_ ?_ ?_) | (with_reducible refine g_fin ?_ ?_) | fail) | (with_reducible refine q_leave lay_ok 400 ?_) | (with_reducible exact o_nil) | ((with_reducible refine o_id ?_); (conv => arg 1; whnf); first | (with_reducible exact o_nil) | fail) | (intro h; ((try simp only [Int.toNat_natCast] at h); repeat (first | replace h := of_decide_eq_true h | replace h := of_decide_eq_false h | fail)); (try (first | contradiction | fail))) | fail)
    all_goals (((with_reducible refine e_id ?_); (conv => whnf)); refine ⟨(), trivial, ?_⟩; ((with_reducible refine s_id ?_); (conv => arg 1; whnf); (with_reducible refine s_some ?_); repeat' (first | ((with_reducible refine o_id ?_); (conv => arg 1; whnf); first | (with_reducible exact o_nil) | (with_reducible refine o_cons ?_ ?_)) | rfl | (exact congrArg _ (curO_0 (e := bh) (l := (gt (c := .block) L i).ops)).symm) | fail)))
  have e8 : (((y + 1 : Nat) : Int) - 1) = (y : Int) := by omega
  rw [e8]
  generalize hM : stO L i (curO bh (gt (c := .block) L i).ops (y + 1)) = M
  generalize hN : (delS bh (List.drop (y + 1) (gt (c := .block) L i).ops)).2 = N
  have hMl : M.length = L.length := by rw [← hM]; exact stO_len
  have hMo : (gt (c := .block) M i).ops = curO bh (gt (c := .block) L i).ops (y + 1) := by rw [← hM]; exact stO_ops hi
  have hol2 := curO_len (e := bh) hz
  rw [← hMo] at hol2
  have hoy : (gt (c := .op) (gt (c := .block) M i).ops y) = (gt (c := .op) (gt (c := .block) L i).ops y) := by rw [hMo]; exact curO_at (Nat.lt_succ_self y) hz
  have hnl : N.length = bh.length := by rw [← hN]; exact delS_len.2
  have ho : OpL N.length (gt (c := .op) (gt (c := .block) M i).ops y) := by rw [hoy, hnl]; exact hop _ (mem_gt (c := .op) hz)
  have o1 := ho.1
  have hDe : deadO (delS bh (List.drop (y + 1) (gt (c := .block) L i).ops)).2 (gt (c := .op) (gt (c := .block) L i).ops y) = deadO N (gt (c := .op) (gt (c := .block) M i).ops y) := by rw [hN, hoy]
  by_cases hk : (gt (c := .op) (gt (c := .block) M i).ops y).kind = 1 ∨ (gt (c := .op) (gt (c := .block) M i).ops y).kind = 2 ∨ (gt (c := .op) (gt (c := .block) M i).ops y).kind = 3 ∨ (gt (c := .op) (gt (c := .block) M i).ops y).kind = 4
  · obtain ⟨d0, d1⟩ := o1 hk
    cases hd : gt (c := .bool) N ((gt (c := .op) (gt (c := .block) M i).ops y).dst).toNat
    · have hD := hDe.trans (dead_t hk hd)
      repeat' (first | (((with_reducible refine g_id ?_); (conv => arg 3; whnf)); first | (with_reducible refine g_cond lay_ok 400 ?_ ?_ ?_) | (with_reducible refine g_fin ?_ ?_) | (refine g_call lay_ok 400 ?_ ?_ ?_ (c_resY ?_ ?_) rfl) | (refine g_del 400 ?_ rfl rfl rfl rfl rfl rfl ?_ ?_ ?_ ?_) | (refine g_shr lay_ok 400 ?_ rfl rfl rfl rfl rfl rfl ?_ ?_ ?_ ?_)) | ((with_reducible refine o_id ?_); (conv => arg 1; whnf); first | (with_reducible exact o_nil) | (with_reducible refine o_cons ?_ ?_)) | (intro h; ((try simp only [Int.toNat_natCast] at h); repeat (first | replace h := of_decide_eq_true h | replace h := of_decide_eq_false h | replace h := not_t h | replace h := not_f h | fail)); (try (first | (exfalso; omega) | exact Bool.noConfusion (h.symm.trans (by assumption) : true = false) | fail))) | rfl | omega | assumption | (rw [stO_len, hMl]; omega) | (rw [stO_ops (by omega), erO_len (by omega)]; omega) | (simp only [Int.toNat_natCast]; omega) | fail)
      all_goals (refine q_round ⟨y, by omega, by omega, ?_⟩; ((with_reducible refine s_id ?_); (conv => arg 1; whnf); (with_reducible refine s_some ?_); repeat' (first | ((with_reducible refine o_id ?_); (conv => arg 1; whnf); first | (with_reducible exact o_nil) | (with_reducible refine o_cons ?_ ?_)) | rfl | (exact someD_y hz hD) | (rw [delS_y hz hD, hN]) | (subst hM; rw [stO_del hi (curO_len (e := bh) hz).1, curO_y hz hD]) | fail)))
    have hD := hDe.trans (dead_f2 hd)
    repeat' (first | (((with_reducible refine g_id ?_); (conv => arg 3; whnf)); first | (with_reducible refine g_cond lay_ok 400 ?_ ?_ ?_) | (with_reducible refine g_fin ?_ ?_) | (refine g_call lay_ok 400 ?_ ?_ ?_ (c_resY ?_ ?_) rfl) | (refine g_call lay_ok 400 ?_ ?_ ?_ (c_into ?_ ?_ ?_ ?_) rfl) | fail) | ((with_reducible refine o_id ?_); (conv => arg 1; whnf); first | (with_reducible exact o_nil) | (with_reducible refine o_cons ?_ ?_)) | (intro h; ((try simp only [Int.toNat_natCast] at h); repeat (first | replace h := of_decide_eq_true h | replace h := of_decide_eq_false h | replace h := not_t h | replace h := not_f h | fail)); (try (first | (exfalso; omega) | exact Bool.noConfusion (h.symm.trans (by assumption) : false = true) | fail))) | rfl | omega | assumption | (simp only [Int.toNat_natCast]; omega) | fail)
    all_goals (refine q_round ⟨y, by omega, by omega, ?_⟩; ((with_reducible refine s_id ?_); (conv => arg 1; whnf); (with_reducible refine s_some ?_); repeat' (first | ((with_reducible refine o_id ?_); (conv => arg 1; whnf); first | (with_reducible exact o_nil) | (with_reducible refine o_cons ?_ ?_)) | rfl | (exact someD_n hz hD) | (simp only [Int.toNat_natCast]; rw [delS_n hz hD, hN, hoy]) | (rw [← curO_n hz hD]; exact hM) | fail)))
  have hD := hDe.trans (dead_f1 hk)
  repeat' (first | (((with_reducible refine g_id ?_); (conv => arg 3; whnf)); first | (with_reducible refine g_cond lay_ok 400 ?_ ?_ ?_) | (with_reducible refine g_fin ?_ ?_) | (refine g_call lay_ok 400 ?_ ?_ ?_ (c_resN ?_ ?_) rfl) | (refine g_call lay_ok 400 ?_ ?_ ?_ (c_into ?_ ?_ ?_ ?_) rfl) | fail) | ((with_reducible refine o_id ?_); (conv => arg 1; whnf); first | (with_reducible exact o_nil) | (with_reducible refine o_cons ?_ ?_)) | (intro h; ((try simp only [Int.toNat_natCast] at h); repeat (first | replace h := of_decide_eq_true h | replace h := of_decide_eq_false h | fail)); (try (first | contradiction | (exfalso; omega) | fail))) | rfl | omega | assumption | fail)
  all_goals (refine q_round ⟨y, by omega, by omega, ?_⟩; ((with_reducible refine s_id ?_); (conv => arg 1; whnf); (with_reducible refine s_some ?_); repeat' (first | ((with_reducible refine o_id ?_); (conv => arg 1; whnf); first | (with_reducible exact o_nil) | (with_reducible refine o_cons ?_ ?_)) | rfl | (exact someD_n hz hD) | (simp only [Int.toNat_natCast]; rw [delS_n hz hD, hN, hoy]) | (rw [← curO_n hz hD]; exact hM) | fail)))
end Go.Proofs.Ytonjbhdfimcedaa
namespace Go.Proofs.Ytonjbhdfimcedaa
open Go.RowKit
def OpsR (hi na : Int) (l : List Op_) : Prop := (∀ o ∈ l, opB hi na o = true) ∧ l.Pairwise fun a b => ¬ b.kind = 6 ∧ ¬ a.kind = 7
theorem gt_el {c : Ty} {l : List (El c)} {i : Nat} (h : i < l.length) : gt l i = l[i] := gt_eq (List.getElem?_eq_getElem h)
theorem ops_iff {hi na : Int} {l : List Op_} : allN (opkB hi na l) l.length = true ↔ OpsR hi na l := by
  constructor
  · intro h
    have hk : ∀ k, k < l.length → opB hi na (gt (c := .op) l k) = true ∧ (¬ ((gt (c := .op) l k).kind = 6 ∧ 0 < k)) ∧ ¬ ((gt (c := .op) l k).kind = 7 ∧ k + 1 < l.length) := by
      intro k hk
      have := allN_at h hk
      unfold opkB at this
      simp only [Bool.and_eq_true, Bool.not_eq_true', Bool.and_eq_false_iff, decide_eq_false_iff_not] at this
      refine ⟨this.1.1, fun q => ?_, fun q => ?_⟩
      · rcases this.1.2 with r | r
        · exact r q.1
        · exact r q.2
      · rcases this.2 with r | r
        · exact r q.1
        · exact r q.2
    refine ⟨fun o ho => ?_, List.pairwise_iff_getElem.2 fun i j hi' hj hij => ⟨fun q => ?_, fun q => ?_⟩⟩
    · obtain ⟨k, hk1, rfl⟩ := mem_at (c := .op) ho
      exact (hk k hk1).1
    · exact (hk j hj).2.1 ⟨by rw [gt_el (c := .op) hj]; exact q, by omega⟩
    · exact (hk i hi').2.2 ⟨by rw [gt_el (c := .op) hi']; exact q, by omega⟩
  · rintro ⟨h1, h2⟩
    refine allN_iff.2 fun k hk => ?_
    have h3 := List.pairwise_iff_getElem.1 h2
    refine opk_t (h1 _ (mem_gt (c := .op) hk)) (fun q => ?_) (fun q => ?_)
    · rcases Nat.eq_zero_or_pos k with e | e
      · exact e
      · exact absurd (by rw [gt_el (c := .op) hk] at q; exact q) (h3 0 k (by omega) hk e).1
    · rcases Nat.lt_or_ge (k + 1) l.length with e | e
      · exact absurd (by rw [gt_el (c := .op) hk] at q; exact q) (h3 k (k + 1) hk e (by omega)).2
      · exact e
theorem OpsR.sub {hi na : Int} {l r : List Op_} (h : OpsR hi na l) (s : r.Sublist l) : OpsR hi na r := ⟨fun o ho => h.1 o (s.mem ho), h.2.sublist s⟩
theorem delS_sub {e : List Bool} : ∀ {l : List Op_}, (delS e l).1.Sublist l
  | [] => List.Sublist.slnil
  | o :: l => by
    have ih := delS_sub (e := e) (l := l)
    show (if _ then _ else _ : List Op_ × List Bool).1.Sublist _
    split
    · exact ih.cons o
    · exact ih.cons_cons o
def NxtR (hi n : Int) (b : Blk) : Prop := (∀ x ∈ b.next, @LE.le Int _ 1 x ∧ @LT.lt Int _ x n) ∧ ((b.next.length < 2 ∧ b.cond = 0) ∨ (b.next.length = 2 ∧ b.next.Nodup ∧ 0 ≤ b.cond ∧ b.cond ≤ hi))
theorem two_nodup {l : List Int} (h : l.length = 2) : l.Nodup ↔ @id Int (gt (c := .int) l 0) ≠ gt (c := .int) l 1 := by
  match l, h with
  | [a, b], _ =>
    show List.Nodup [a, b] ↔ a ≠ b
    simp
theorem blk_iff {hi na n : Int} {b : Blk} : blkB hi na n b = true ↔ OpsR hi na b.ops ∧ NxtR hi n b := by
  unfold blkB
  rw [Bool.and_eq_true, Bool.and_eq_true, ops_iff, and_assoc]
  refine and_congr_right fun _ => ?_
  unfold NxtR
  refine and_congr ⟨fun h x hx => ?_, fun h => allN_iff.2 fun k hk => decide_eq_true (h _ (mem_gt (c := .int) hk))⟩ ?_
  · obtain ⟨k, hk, rfl⟩ := mem_at (c := .int) hx
    exact of_decide_eq_true (allN_at h hk)
  · rw [Bool.or_eq_true, decide_eq_true_eq, decide_eq_true_eq]
    constructor
    · rintro (h | h)
      · exact .inl h
      · exact .inr ⟨h.1, (two_nodup h.1).2 h.2.1, h.2.2⟩
    · rintro (h | h)
      · exact .inl h
      · exact .inr ⟨h.1, (two_nodup h.1).1 h.2.1, h.2.2⟩
theorem pt_iff {n : Int} {l : List Int} : ptB n l = true ↔ (∀ x ∈ l, @LE.le Int _ 0 x ∧ @LT.lt Int _ x n) ∧ l.Nodup := by
  unfold ptB
  constructor
  · intro h
    have hk : ∀ k, k < l.length → (@LE.le Int _ 0 (gt (c := .int) l k) ∧ @LT.lt Int _ (gt (c := .int) l k) n) ∧ ∀ j, j < k → ¬ @id Int (gt (c := .int) l j) = gt (c := .int) l k := by
      intro k hk
      have := allN_at h hk
      unfold nodB at this
      rw [Bool.and_eq_true, Bool.not_eq_true'] at this
      refine ⟨of_decide_eq_true this.1, fun j hj q => ?_⟩
      have h2 := this.2
      unfold metB at h2
      rw [List.any_eq_false] at h2
      exact h2 j (List.mem_range.2 hj) (decide_eq_true q)
    refine ⟨fun x hx => ?_, List.pairwise_iff_getElem.2 fun i j hi' hj hij q => ?_⟩
    · obtain ⟨k, hk1, rfl⟩ := mem_at (c := .int) hx
      exact (hk k hk1).1
    · refine (hk j hj).2 i hij ?_
      rw [gt_el (c := .int) hi', gt_el (c := .int) hj]; exact q
  · rintro ⟨h1, h2⟩
    have h3 := List.pairwise_iff_getElem.1 h2
    refine allN_iff.2 fun k hk => ?_
    have := h1 _ (mem_gt (c := .int) hk)
    refine nod_t this.1 this.2 ?_
    unfold metB
    rw [List.any_eq_false]
    intro j hj q
    have hj := List.mem_range.1 hj
    have q := of_decide_eq_true q
    refine h3 j k (by omega) hk hj ?_
    rw [gt_el (c := .int) (show j < l.length by omega), gt_el (c := .int) hk] at q; exact q
def HdsR (n : Int) (l : List Hd_) : Prop := (∀ x ∈ l, 0 ≤ x.block ∧ x.block < n ∧ 0 ≤ x.max ∧ x.max ≤ 4000) ∧ l.Pairwise fun a b => a.block < b.block
theorem hds_iff {n : Int} {l : List Hd_} : allN (hdB n l) l.length = true ↔ HdsR n l := by
  constructor
  · intro h
    have hk : ∀ k, k < l.length → _ := fun k hk => of_decide_eq_true (allN_at h hk)
    refine ⟨fun x hx => ?_, List.pairwise_iff_getElem.2 fun i j hi' hj hij => ?_⟩
    · obtain ⟨k, hk1, rfl⟩ := mem_at (c := .head) hx
      have := hk k hk1
      exact ⟨this.1, this.2.1, this.2.2.1, this.2.2.2.1⟩
    · have key : ∀ d i, i + d + 1 < l.length → (gt (c := .head) l i).block < (gt (c := .head) l (i + d + 1)).block := by
        intro d
        induction d with
        | zero =>
          intro i hi
          have := (hk (i + 1) hi).2.2.2.2
          rcases this with e | e
          · omega
          · exact e
        | succ d ih =>
          intro i hi
          have h1 := ih i (by omega)
          have := (hk (i + (d + 1) + 1) hi).2.2.2.2
          rcases this with e | e
          · omega
          · exact Int.lt_trans h1 e
      have := key (j - i - 1) i (by omega)
      rw [show i + (j - i - 1) + 1 = j by omega, gt_el (c := .head) hi', gt_el (c := .head) hj] at this
      exact this
  · rintro ⟨h1, h2⟩
    have h3 := List.pairwise_iff_getElem.1 h2
    refine allN_iff.2 fun k hk => decide_eq_true ?_
    have := h1 _ (mem_gt (c := .head) hk)
    refine ⟨this.1, this.2.1, this.2.2.1, this.2.2.2, ?_⟩
    rcases Nat.eq_zero_or_pos k with e | e
    · exact .inl e
    · right
      have := h3 (k - 1) k (by omega) hk (by omega)
      rw [gt_el (c := .head) (show k - 1 < l.length by omega), gt_el (c := .head) hk]; exact this
structure Rgt (g : Grf) : Prop where
  b : g.blks.length ≤ 64
  s : osum g.blks ≤ 600
  v : g.vars ≤ 64
  a : g.arrs.length ≤ 8
  p : g.pts.length ≤ 39
  k : ∀ x ∈ g.blks, OpsR (g.vars - 1) g.arrs.length x.ops ∧ NxtR (g.vars - 1) g.blks.length x
  e : endsN g.blks g.blks.length = 1
  d : decB g = true
  q : ∀ l ∈ g.pts, (∀ x ∈ l, @LE.le Int _ 0 x ∧ @LT.lt Int _ x (g.blks.length : Int)) ∧ l.Nodup
  h : HdsR g.blks.length g.hds
theorem chk_iff {g : Grf} : chkG g = 0 ↔ Rgt g := by
  constructor
  · intro h
    unfold chkG at h
    split at h
    · exact absurd h (by decide)
    · rename_i hl
      split at h
      · rename_i ho
        unfold limG at hl
        unfold okG at ho
        simp only [Bool.and_eq_true, decide_eq_true_eq] at ho
        obtain ⟨o1, o2, o3, o4⟩ := ho
        unfold namB at o4
        rw [Bool.and_eq_true] at o4
        obtain ⟨p1, p2⟩ := o4
        have hops := opsN_sum (l := g.blks)
        refine ⟨by omega, by omega, by omega, by omega, by omega, fun x hx => ?_, o2, o3, fun l hl => ?_, hds_iff.1 p2⟩
        · obtain ⟨i, hi, rfl⟩ := mem_at (c := .block) hx
          exact blk_iff.1 (allN_at o1 hi)
        · obtain ⟨i, hi, rfl⟩ := mem_at (c := .ints) hl
          have h9 : ptB (g.blks.length : Int) (gt (c := .ints) g.pts i) = true := allN_at (p := fun k => ptB (g.blks.length : Int) (gt (c := .ints) g.pts k)) p1 hi
          exact pt_iff.1 h9
      · exact absurd h (by decide)
  · intro r
    have hops := opsN_sum (l := g.blks)
    refine chk_yes (fun hl => ?_) ?_
    · have := r.b; have := r.s; have := r.v; have := r.a; have := r.p
      unfold limG at hl
      omega
    · refine ok_all2 (allN_iff.2 fun k hk => blk_iff.2 (r.k _ (mem_gt (c := .block) hk))) r.e r.d ?_
      exact nam_y (allN_iff.2 fun k hk => pt_iff.2 (r.q _ (mem_gt (c := .ints) hk))) (hds_iff.2 r.h)
def eL : List Blk → Nat
  | [] => 0
  | x :: l => eL l + if x.next.length = 0 then 1 else 0
theorem eL_app : ∀ (l m : List Blk), eL (l ++ m) = eL l + eL m
  | [], m => by simp [eL]
  | x :: l, m => by simp only [List.cons_append, eL, eL_app l m]; omega
theorem endsN_take {l : List Blk} : ∀ {n : Nat}, n ≤ l.length → endsN l n = (eL (l.take n) : Int)
  | 0, _ => rfl
  | n + 1, h => by
    have ih := endsN_take (l := l) (n := n) (Nat.le_of_succ_le h)
    rw [take_snoc (c := .block) h, eL_app]
    by_cases e : (gt (c := .block) l n).next.length = 0
    · rw [endsN_y e, ih]
      show _ = ((eL (l.take n) + (0 + if (gt (c := .block) l n).next.length = 0 then 1 else 0) : Nat) : Int)
      rw [if_pos e]; omega
    · rw [endsN_n e, ih]
      show _ = ((eL (l.take n) + (0 + if (gt (c := .block) l n).next.length = 0 then 1 else 0) : Nat) : Int)
      rw [if_neg e]; omega
theorem endsN_sum {l : List Blk} : endsN l l.length = (eL l : Int) := by rw [endsN_take (Nat.le_refl _), List.take_length]
theorem eL_ext {l m : List Blk} (hl : l.length = m.length) (h : ∀ i, i < l.length → (gt (c := .block) l i).next.length = (gt (c := .block) m i).next.length) : ∀ n, n ≤ l.length → eL (l.take n) = eL (m.take n)
  | 0, _ => rfl
  | n + 1, hn => by
    have ih := eL_ext hl h n (by omega)
    rw [take_snoc (c := .block) (show n < l.length by omega), take_snoc (c := .block) (show n < m.length by omega), eL_app, eL_app, ih]
    show _ + (0 + if (gt (c := .block) l n).next.length = 0 then 1 else 0) = _ + (0 + if (gt (c := .block) m n).next.length = 0 then 1 else 0)
    rw [h n (by omega)]
theorem osum_ext {l m : List Blk} (hl : l.length = m.length) (h : ∀ i, i < l.length → (gt (c := .block) l i).ops.length ≤ (gt (c := .block) m i).ops.length) : ∀ n, n ≤ l.length → osum (l.take n) ≤ osum (m.take n)
  | 0, _ => Nat.le_refl _
  | n + 1, hn => by
    have ih := osum_ext hl h n (by omega)
    rw [take_snoc (c := .block) (show n < l.length by omega), take_snoc (c := .block) (show n < m.length by omega), osum_app, osum_app]
    have := h n (by omega)
    show _ + ((gt (c := .block) l n).ops.length + 0) ≤ _ + ((gt (c := .block) m n).ops.length + 0)
    omega
theorem del_at {g : Grf} {i : Nat} (h : i < g.blks.length) : gt (c := .block) (delG g).blks i = ⟨(delS (gt (c := .bools) (liveL g) i) (gt (c := .block) g.blks i).ops).1, (gt (c := .block) g.blks i).cond, (gt (c := .block) g.blks i).next⟩ := delR_lt h (Nat.le_refl _)
theorem del_len {g : Grf} : (delG g).blks.length = g.blks.length := delR_len
theorem del_osum {g : Grf} : osum (delG g).blks ≤ osum g.blks := by
  have := osum_ext (l := (delG g).blks) (m := g.blks) del_len (fun i hi => by rw [del_at (by rw [del_len] at hi; exact hi)]; exact delS_len.1) (delG g).blks.length (Nat.le_refl _)
  rw [List.take_length, del_len, List.take_length] at this
  exact this
theorem Rgt.del {g : Grf} (r : Rgt g) : Rgt (delG g) := by
  refine ⟨by rw [del_len]; exact r.b, Nat.le_trans del_osum r.s, r.v, r.a, r.p, fun x hx => ?_, ?_, r.d, fun l hl => ?_, ?_⟩
  · obtain ⟨i, hi, rfl⟩ := mem_at (c := .block) hx
    rw [del_len] at hi
    rw [del_at hi]
    have := r.k _ (mem_gt (c := .block) hi)
    refine ⟨this.1.sub delS_sub, ?_⟩
    rw [del_len]
    exact this.2
  · rw [endsN_sum]
    have h1 := r.e
    rw [endsN_sum] at h1
    have := eL_ext (l := (delG g).blks) (m := g.blks) del_len (fun i hi => by rw [del_at (by rw [del_len] at hi; exact hi)]) (delG g).blks.length (Nat.le_refl _)
    rw [List.take_length, del_len, List.take_length] at this
    rw [this]; exact h1
  · rw [del_len]; exact r.q l hl
  · rw [del_len]; exact r.h
theorem osum_lt {E : List (List Bool)} {l : List Blk} : ∀ z, z ≤ l.length → smR E l z = true → osum ((delR E l l.length).take z) < osum (l.take z)
  | 0, _, h => by cases h
  | z + 1, hz, h => by
    have hlt : z < l.length := hz
    have hlt2 : z < (delR E l l.length).length := by rw [delR_len]; exact hz
    rw [take_snoc (c := .block) hlt, take_snoc (c := .block) hlt2, osum_app, osum_app, delR_lt hlt (Nat.le_refl _)]
    show _ + ((delS _ _).1.length + 0) < _ + ((gt (c := .block) l z).ops.length + 0)
    have hd := (delS_len (e := gt (c := .bools) E z) (l := (gt (c := .block) l z).ops)).1
    have hle := osum_ext (l := delR E l l.length) (m := l) delR_len (fun i hi => by rw [delR_lt (by rw [delR_len] at hi; exact hi) (Nat.le_refl _)]; exact delS_len.1) z (by rw [delR_len]; omega)
    rw [← smR_s, Bool.or_eq_true] at h
    rcases h with h | h
    · have := osum_lt z (by omega) h
      omega
    · have := of_decide_eq_true h
      rw [List.drop_zero] at this
      omega
theorem del_lt {g : Grf} (h : smG g = true) : osum (delG g).blks < osum g.blks := by
  have := osum_lt (E := liveL g) (l := g.blks) g.blks.length (Nat.le_refl _) h
  rw [List.take_length] at this
  rw [show (delR (liveL g) g.blks g.blks.length).take g.blks.length = delR (liveL g) g.blks g.blks.length from List.take_of_length_le (by rw [delR_len]; exact Nat.le_refl _)] at this
  exact this
theorem Rgt.bnd {g : Grf} (r : Rgt g) (hi : g.inp.length ≤ 1048576) (hh : g.hds.length ≤ 1048576) (hq : ∀ l ∈ g.pts, l.length ≤ 1048576) : Bnd g := by
  have h1 := r.b; have h2 := r.s; have h3 := r.a; have h4 := r.p
  refine ⟨hi, by omega, by omega, by omega, hh, by rw [opsN_sum]; omega, fun b hb => by have := osum_mem hb; omega, fun b hb => ?_, hq⟩
  have := (r.k b hb).2.2
  omega
theorem del_bnd {g : Grf} (hB : Bnd g) (r : Rgt g) : Bnd (delG g) := r.del.bnd hB.i hB.h hB.q
def deadF : Nat → Grf → Grf
  | 0, g => g
  | f + 1, g => if smG g = true then deadF f (delG g) else delG g
theorem deadF_y {f : Nat} {g : Grf} (hf : 0 < f) (h : smG g = true) : deadF f g = deadF (f - 1) (delG g) := by
  obtain ⟨f, rfl⟩ : ∃ k, f = k + 1 := ⟨f - 1, by omega⟩
  show (if _ then _ else _) = _
  rw [if_pos h]; rfl
theorem deadF_n {f : Nat} {g : Grf} (hf : 0 < f) (h : smG g = false) : deadF f g = delG g := by
  obtain ⟨f, rfl⟩ : ∃ k, f = k + 1 := ⟨f - 1, by omega⟩
  show (if _ then _ else _) = _
  rw [if_neg (by rw [h]; decide)]
def outG (g : Grf) (R : List Bool) : Grf := rnm g (plT R g.blks g.blks.length)
section
variable {g : Grf} {R : List Bool}
theorem out_blks : (outG g R).blks = (kB R g.blks g.blks.length : List (El .block)).map (tB (plT R g.blks g.blks.length)) := rnB_kB (Nat.le_refl _)
theorem out_len : (outG g R).blks.length = cntN R g.blks g.blks.length := by rw [out_blks, List.length_map]; exact kB_len _
theorem rch_kpt (h : RchL g R) {i : Nat} (hi : i < g.blks.length) (hr : Rch g i) : kpt R g.blks i = true := by
  unfold kpt
  rw [(h.2 i hi).2 hr, Bool.true_or]
theorem cnt_in {i : Nat} (hk : kpt R g.blks i = true) (hi : i < g.blks.length) : cntN R g.blks i < cntN R g.blks g.blks.length := by
  have := cnt_mono (R := R) (l := g.blks) (show i + 1 ≤ g.blks.length from hi)
  rw [cnt_y hk] at this
  omega
theorem cnt_inj {i j : Nat} (hi : kpt R g.blks i = true) (hij : i < j) : cntN R g.blks i < cntN R g.blks j := by
  have := cnt_mono (R := R) (l := g.blks) (show i + 1 ≤ j from hij)
  rw [cnt_y hi] at this
  omega
theorem tI_y {n : Int} (h0 : 0 ≤ n) (h1 : n < (g.blks.length : Int)) (hk : kpt R g.blks n.toNat = true) : tI (plT R g.blks g.blks.length) n = (cntN R g.blks n.toNat : Int) := by
  show gt (c := .int) (plT R g.blks g.blks.length) n.toNat = _
  rw [plT_at (by omega)]
  exact plF_y hk
theorem tI_n {n : Int} (h0 : 0 ≤ n) (h1 : n < (g.blks.length : Int)) (hk : kpt R g.blks n.toNat = false) : tI (plT R g.blks g.blks.length) n = (-1 : Int) := by
  show gt (c := .int) (plT R g.blks g.blks.length) n.toNat = _
  rw [plT_at (by omega)]
  exact plF_n hk
theorem tI_ge {n : Int} (h0 : 0 ≤ n) (h1 : n < (g.blks.length : Int)) (h : @LE.le Int _ 0 (tI (plT R g.blks g.blks.length) n)) : kpt R g.blks n.toNat = true := by
  cases hk : kpt R g.blks n.toNat
  · rw [tI_n h0 h1 hk] at h; exact absurd h (by decide)
  · rfl
theorem kB_sub : ∀ {z : Nat}, z ≤ g.blks.length → (kB R g.blks z).Sublist (g.blks.take z)
  | 0, _ => List.Sublist.slnil
  | z + 1, h => by
    have ih := kB_sub (z := z) (Nat.le_of_succ_le h)
    rw [take_snoc (c := .block) h]
    cases hk : kpt R g.blks z
    · rw [kB_n hk]; exact ih.trans (List.sublist_append_left _ _)
    · rw [kB_y hk]; exact ih.append (List.Sublist.refl _)
theorem osum_sub {l m : List Blk} (h : l.Sublist m) : osum l ≤ osum m := by
  induction h with
  | slnil => exact Nat.le_refl _
  | cons a _ ih => exact Nat.le_trans ih (Nat.le_add_left _ _)
  | cons_cons a _ ih => simp only [osum]; omega
theorem kB_eL : ∀ {z : Nat}, z ≤ g.blks.length → eL (kB R g.blks z) = eL (g.blks.take z)
  | 0, _ => rfl
  | z + 1, h => by
    have ih := kB_eL (z := z) (Nat.le_of_succ_le h)
    rw [take_snoc (c := .block) h, eL_app]
    cases hk : kpt R g.blks z
    · rw [kB_n hk, ih]
      have : ¬ (gt (c := .block) g.blks z).next.length = 0 := fun e => by
        unfold kpt at hk
        rw [decide_eq_true e, Bool.or_true] at hk
        cases hk
      show _ = _ + (0 + if (gt (c := .block) g.blks z).next.length = 0 then 1 else 0)
      rw [if_neg this]; rfl
    · rw [kB_y hk, eL_app, ih]
theorem osum_map {tt : List Int} : ∀ l : List Blk, osum ((l : List (El .block)).map (tB tt)) = osum l
  | [] => rfl
  | x :: l => by
    have := osum_map (tt := tt) l
    show x.ops.length + osum ((l : List (El .block)).map (tB tt)) = _
    rw [this]; rfl
theorem eL_map {tt : List Int} : ∀ l : List Blk, eL ((l : List (El .block)).map (tB tt)) = eL l
  | [] => rfl
  | x :: l => by
    have := eL_map (tt := tt) l
    show eL ((l : List (El .block)).map (tB tt)) + (if (x.next.map (tI tt)).length = 0 then 1 else 0) = _
    rw [this, List.length_map]; rfl
theorem kB_of : ∀ {z : Nat} {x : Blk}, z ≤ g.blks.length → x ∈ kB R g.blks z → ∃ i, i < z ∧ kpt R g.blks i = true ∧ x = gt (c := .block) g.blks i
  | 0, x, _, h => by cases h
  | z + 1, x, hz, h => by
    cases hk : kpt R g.blks z
    · rw [kB_n hk] at h
      obtain ⟨i, h1, h2, h3⟩ := kB_of (Nat.le_of_succ_le hz) h
      exact ⟨i, by omega, h2, h3⟩
    · rw [kB_y hk] at h
      rcases List.mem_append.1 h with q | q
      · obtain ⟨i, h1, h2, h3⟩ := kB_of (Nat.le_of_succ_le hz) q
        exact ⟨i, by omega, h2, h3⟩
      · simp only [List.mem_cons, List.not_mem_nil, or_false] at q
        exact ⟨z, Nat.lt_succ_self z, hk, q⟩
theorem Rgt.out (r : Rgt g) (hR : RchL g R) : Rgt (outG g R) := by
  have hb0 : 0 < g.blks.length := by
    rcases Nat.eq_zero_or_pos g.blks.length with e | e
    · have := r.e; rw [e, endsN_zero] at this; exact absurd this (by decide)
    · exact e
  have k0 : kpt R g.blks 0 = true := rch_kpt hR hb0 .z
  have cpos : ∀ j, 1 ≤ j → 1 ≤ cntN R g.blks j := fun j hj => by
    have := cnt_inj (R := R) (g := g) k0 (show 0 < j by omega)
    rw [cnt_0] at this
    exact this
  have hlen := out_len (g := g) (R := R)
  -- what a block that stays leads to stays
  have nx : ∀ i, i < g.blks.length → kpt R g.blks i = true → ∀ n ∈ (gt (c := .block) g.blks i).next, (@LE.le Int _ 1 n ∧ @LT.lt Int _ n (g.blks.length : Int)) ∧ kpt R g.blks (Int.toNat n) = true := by
    intro i hi hk n hn
    have h1 := (r.k _ (mem_gt (c := .block) hi)).2.1 n hn
    refine ⟨h1, ?_⟩
    have hr : Rch g i := by
      unfold kpt at hk
      rcases Bool.or_eq_true_iff.1 hk with h | h
      · exact (hR.2 i hi).1 h
      · have h := of_decide_eq_true h
        have := List.length_pos_of_mem hn
        omega
    have h2 : @LT.lt Int _ n (g.blks.length : Int) := h1.2
    have h3 : @LE.le Int _ 1 n := h1.1
    exact rch_kpt hR (by omega) (.s hr hi hn)
  refine ⟨by rw [hlen]; exact Nat.le_trans (cnt_le _) r.b, ?_, r.v, r.a, ?_, fun x hx => ?_, ?_, r.d, fun l hl => ?_, ?_⟩
  · rw [out_blks, osum_map]
    have := osum_sub (kB_sub (R := R) (g := g) (Nat.le_refl _))
    rw [List.take_length] at this
    exact Nat.le_trans this r.s
  · show ((g.pts : List (El .ints)).map (tP (plT R g.blks g.blks.length))).length ≤ 39
    rw [List.length_map]; exact r.p
  · rw [out_blks] at hx
    obtain ⟨y, hy, rfl⟩ := List.mem_map.1 hx
    obtain ⟨i, hi, hk, rfl⟩ := kB_of (Nat.le_refl _) hy
    have hr := r.k _ (mem_gt (c := .block) hi)
    refine ⟨hr.1, ?_⟩
    rw [hlen]
    refine ⟨fun v hv => ?_, ?_⟩
    · obtain ⟨n, hn, rfl⟩ := List.mem_map.1 hv
      obtain ⟨⟨n1, n2⟩, n3⟩ := nx i hi hk n hn
      have n1 : @LE.le Int _ 1 n := n1
      have n2 : @LT.lt Int _ n (g.blks.length : Int) := n2
      rw [tI_y (by omega) n2 n3]
      have c1 := cpos n.toNat (by omega)
      have c2 := cnt_in (R := R) n3 (by omega)
      constructor
      · show (1 : Int) ≤ (cntN R g.blks n.toNat : Int); omega
      · show (cntN R g.blks n.toNat : Int) < _; omega
    · rcases hr.2.2 with h | ⟨h1, h2, h3⟩
      · refine .inl ⟨?_, h.2⟩
        show ((gt (c := .block) g.blks i).next.map _).length < 2
        rw [List.length_map]; exact h.1
      · refine .inr ⟨?_, ?_, h3⟩
        · show ((gt (c := .block) g.blks i).next.map _).length = 2
          rw [List.length_map]; exact h1
        · show List.Pairwise _ ((gt (c := .block) g.blks i).next.map _)
          rw [List.pairwise_map]
          refine h2.imp_of_mem fun {a b} ha hb hne => ?_
          obtain ⟨⟨a1, a2⟩, a3⟩ := nx i hi hk a ha
          obtain ⟨⟨b1, b2⟩, b3⟩ := nx i hi hk b hb
          have a1 : @LE.le Int _ 1 a := a1
          have a2 : @LT.lt Int _ a (g.blks.length : Int) := a2
          have b1 : @LE.le Int _ 1 b := b1
          have b2 : @LT.lt Int _ b (g.blks.length : Int) := b2
          rw [tI_y (by omega) a2 a3, tI_y (by omega) b2 b3]
          intro q
          have q : (cntN R g.blks a.toNat : Int) = (cntN R g.blks b.toNat : Int) := q
          have hne : ¬ @id Int a = b := hne
          have hne2 : ¬ a.toNat = b.toNat := fun e => hne (by show (a : Int) = b; omega)
          rcases Nat.lt_or_gt_of_ne hne2 with e | e
          · have := cnt_inj a3 e; omega
          · have := cnt_inj b3 e; omega
  · rw [endsN_sum, out_blks, eL_map, kB_eL (Nat.le_refl _), List.take_length, ← endsN_sum]
    exact r.e
  · obtain ⟨y, hy, rfl⟩ := List.mem_map.1 hl
    obtain ⟨q1, q2⟩ := r.q y hy
    rw [hlen]
    constructor
    · intro v hv
      obtain ⟨hv, hv0⟩ := List.mem_filter.1 hv
      obtain ⟨n, hn, rfl⟩ := List.mem_map.1 hv
      obtain ⟨n1, n2⟩ := q1 n hn
      have n1 : @LE.le Int _ 0 n := n1
      have n2 : @LT.lt Int _ n (g.blks.length : Int) := n2
      have hv0 := of_decide_eq_true hv0
      have n3 := tI_ge n1 n2 hv0
      rw [tI_y n1 n2 n3]
      have c2 := cnt_in (R := R) n3 (by omega)
      constructor
      · show (0 : Int) ≤ (cntN R g.blks n.toNat : Int); omega
      · show (cntN R g.blks n.toNat : Int) < _; omega
    · show List.Pairwise _ (List.filter _ (List.map _ _))
      rw [List.pairwise_filter, List.pairwise_map]
      refine q2.imp_of_mem fun {a b} ha hb hne p1 p2 q => ?_
      obtain ⟨a1, a2⟩ := q1 a ha
      obtain ⟨b1, b2⟩ := q1 b hb
      have a1 : @LE.le Int _ 0 a := a1
      have a2 : @LT.lt Int _ a (g.blks.length : Int) := a2
      have b1 : @LE.le Int _ 0 b := b1
      have b2 : @LT.lt Int _ b (g.blks.length : Int) := b2
      have a3 := tI_ge a1 a2 (of_decide_eq_true p1)
      have b3 := tI_ge b1 b2 (of_decide_eq_true p2)
      rw [tI_y a1 a2 a3, tI_y b1 b2 b3] at q
      have q : (cntN R g.blks a.toNat : Int) = (cntN R g.blks b.toNat : Int) := q
      have hne : ¬ @id Int a = b := hne
      have hne2 : ¬ a.toNat = b.toNat := fun e => hne (by show (a : Int) = b; omega)
      rcases Nat.lt_or_gt_of_ne hne2 with e | e
      · have := cnt_inj a3 e; omega
      · have := cnt_inj b3 e; omega
  · rw [hlen]
    obtain ⟨q1, q2⟩ := r.h
    constructor
    · intro v hv
      obtain ⟨hv, hv0⟩ := List.mem_filter.1 hv
      obtain ⟨x, hx, rfl⟩ := List.mem_map.1 hv
      obtain ⟨n1, n2, n3⟩ := q1 x hx
      have hv0 := of_decide_eq_true hv0
      have n4 := tI_ge n1 n2 hv0
      have e : (tH (plT R g.blks g.blks.length) x).block = (cntN R g.blks x.block.toNat : Int) := tI_y n1 n2 n4
      have c2 := cnt_in (R := R) n4 (by omega)
      refine ⟨by rw [e]; omega, by rw [e]; omega, n3⟩
    · show List.Pairwise _ (List.filter _ (List.map _ _))
      rw [List.pairwise_filter, List.pairwise_map]
      refine q2.imp_of_mem fun {a b} ha hb hlt p1 p2 => ?_
      obtain ⟨a1, a2, _⟩ := q1 a ha
      obtain ⟨b1, b2, _⟩ := q1 b hb
      have a3 := tI_ge a1 a2 (of_decide_eq_true p1)
      have b3 := tI_ge b1 b2 (of_decide_eq_true p2)
      have e1 : (tH (plT R g.blks g.blks.length) a).block = (cntN R g.blks a.block.toNat : Int) := tI_y a1 a2 a3
      have e2 : (tH (plT R g.blks g.blks.length) b).block = (cntN R g.blks b.block.toNat : Int) := tI_y b1 b2 b3
      rw [e1, e2]
      have := cnt_inj (R := R) (g := g) a3 (show a.block.toNat < b.block.toNat by omega)
      omega
theorem out_bnd (hB : Bnd g) (r : Rgt g) (hR : RchL g R) : Bnd (outG g R) := by
  refine (r.out hR).bnd hB.i ?_ fun l hl => ?_
  · refine Nat.le_trans (List.length_filter_le _ _) ?_
    rw [List.length_map]; exact hB.h
  · obtain ⟨y, hy, rfl⟩ := List.mem_map.1 hl
    refine Nat.le_trans (List.length_filter_le _ _) ?_
    rw [List.length_map]; exact hB.q y hy
theorem out_v : (outG g R).vars = g.vars := rfl
theorem out_k : (outG g R).keep = g.keep := rfl
theorem out_s : (outG g R).shared = g.shared := rfl
theorem out_i : (outG g R).inp = g.inp := rfl
theorem out_a : (outG g R).arrs = g.arrs := rfl
theorem out_b : (outG g R).blks = (rnm g (plT R g.blks g.blks.length)).blks := rfl
theorem out_p : (outG g R).pts = (rnm g (plT R g.blks g.blks.length)).pts := rfl
theorem out_h : (outG g R).hds = (rnm g (plT R g.blks g.blks.length)).hds := rfl
end
end Go.Proofs.Ytonjbhdfimcedaa
namespace Go.Proofs.Ytonjbhdfimcedaa
open Go.RowKit
attribute [local irreducible] stO erO delS curO someD deadO intoN delR smR liveL chkG opsN deadF outG mmA osum plT
set_option maxHeartbeats 4000000 in
theorem c_DeadE (g : Grf) (hB : Bnd g) (he : ¬ chkG g = 0) : Trip Try.prog 38 [.agg [.sl ⟨0, []⟩, .int .i64 g.vars, .int .i64 g.keep, .sl ⟨1, []⟩, .int .i64 g.shared, .sl ⟨2, []⟩, .sl ⟨3, []⟩, .sl ⟨4, []⟩]] ⟨[], [(0, .list .fz .input g.inp), (1, .list .fz .array g.arrs), (2, .list .fz .block g.blks), (3, .list .fz .ints g.pts), (4, .list .fz .head g.hds)], 5⟩ (Z := Unit) (fun _ => True) (fun _ => .tup [.agg [.val (.slice none 0 0), .int .i64 0, .int .i64 0, .val (.slice none 0 0), .int .i64 0, .val (.slice none 0 0), .val (.slice none 0 0), .val (.slice none 0 0)], .val (.slice none 0 0), .int .i64 (chkG g)]) (fun _ => ⟨[], [(0, .list .fz .input g.inp), (1, .list .fz .array g.arrs), (2, .list .fz .block g.blks), (3, .list .fz .ints g.pts), (4, .list .fz .head g.hds)], 5⟩) := by
  refine trip_by (rs := [_, _, _]) 400 lay_ok Try.func38 rfl (by kernel_rfl) Try.ntmps38 Try.results38 rfl rfl ?_
  repeat' (first | (((with_reducible refine g_id ?_); (conv => arg 3; whnf)); first | (with_reducible refine g_cond lay_ok 400 ?_ ?_ ?_) | (with_reducible refine g_fin ?_ ?_) | (refine g_call lay_ok 400 ?_ ?_ ?_ (c_check ?_ ?_) rfl)) | ((with_reducible refine o_id ?_); (conv => arg 1; whnf); first | (with_reducible exact o_nil) | (with_reducible refine o_cons ?_ ?_)) | (intro h; ((try simp only [Int.toNat_natCast] at h); repeat (first | replace h := of_decide_eq_true h | replace h := of_decide_eq_false h | replace h := not_t h | replace h := not_f h | fail)); (try (first | contradiction | fail))) | rfl | omega | fail)
  all_goals (((with_reducible refine e_id ?_); (conv => whnf)); refine ⟨(), trivial, ?_⟩; ((with_reducible refine s_id ?_); (conv => arg 1; whnf); (with_reducible refine s_some ?_); repeat' (first | ((with_reducible refine o_id ?_); (conv => arg 1; whnf); first | (with_reducible exact o_nil) | (with_reducible refine o_cons ?_ ?_)) | rfl | fail)))
set_option maxHeartbeats 4000000 in
set_option maxRecDepth 4000 in
theorem c_DeadO (g : Grf) (hB : Bnd g) (he : chkG g = 0) : Trip Try.prog 38 [.agg [.sl ⟨0, []⟩, .int .i64 g.vars, .int .i64 g.keep, .sl ⟨1, []⟩, .int .i64 g.shared, .sl ⟨2, []⟩, .sl ⟨3, []⟩, .sl ⟨4, []⟩]] ⟨[], [(0, .list .fz .input g.inp), (1, .list .fz .array g.arrs), (2, .list .fz .block g.blks), (3, .list .fz .ints g.pts), (4, .list .fz .head g.hds)], 5⟩ (Z := List Bool) (RchL g) (fun R => .tup [.agg [.sl ⟨5, []⟩, .int .i64 ((deadF (osum (outG g R).blks + 1) (outG g R))).vars, .int .i64 ((deadF (osum (outG g R).blks + 1) (outG g R))).keep, .sl ⟨6, []⟩, .int .i64 ((deadF (osum (outG g R).blks + 1) (outG g R))).shared, .sl ⟨7, []⟩, .sl ⟨8, []⟩, .sl ⟨9, []⟩], .sl ⟨10, []⟩, .int .i64 0]) (fun R => ⟨[], [(0, .list .fz .input g.inp), (1, .list .fz .array g.arrs), (2, .list .fz .block g.blks), (3, .list .fz .ints g.pts), (4, .list .fz .head g.hds), (5, .list .own .input (deadF (osum (outG g R).blks + 1) (outG g R)).inp), (6, .list .own .array (deadF (osum (outG g R).blks + 1) (outG g R)).arrs), (7, .list .own .block ((deadF (osum (outG g R).blks + 1) (outG g R)).blks)), (8, .list .own .ints (deadF (osum (outG g R).blks + 1) (outG g R)).pts), (9, .list .own .head (deadF (osum (outG g R).blks + 1) (outG g R)).hds), (10, .list .own .ints (mmA R g.blks g.blks.length))], 11⟩) := by
  have C0 := c_check g hB
  rw [he] at C0
  have r := chk_iff.1 he
  have w := chk_wf hB he
  have hb0 : 0 < g.blks.length ∧ g.blks.length ≤ 1048576 := ⟨w.b.1, by have := w.b.2; omega⟩
  have C1 := c_Reached g hb0 (fun y hy => (w.n y hy).2) (fun y hy => (w.n y hy).1)
  have CW := fun (R : List Bool) (hR : RchL g R) => c_without g R hB hR.1 w.n (fun x hx => (w.q x hx).2) w.k
  refine trip_by (rs := [_, _, _]) 400 lay_ok Try.func38 rfl (by kernel_rfl) Try.ntmps38 Try.results38 rfl rfl ?_
  repeat' (first | (((with_reducible refine g_id ?_); (conv => arg 3; whnf)); first | (with_reducible refine g_cond lay_ok 400 ?_ ?_ ?_) | (refine g_call lay_ok 400 ?_ ?_ ?_ (C0) rfl) | (refine g_call lay_ok 400 ?_ ?_ ?_ (C1) rfl) | (refine g_call lay_ok 400 ?_ ?_ ?_ (CW ?_ ?_) rfl) | fail) | ((with_reducible refine o_id ?_); (conv => arg 1; whnf); first | (with_reducible exact o_nil) | (with_reducible refine o_cons ?_ ?_)) | (intro h; ((try simp only [Int.toNat_natCast] at h); repeat (first | replace h := of_decide_eq_true h | replace h := of_decide_eq_false h | replace h := not_t h | replace h := not_f h | fail)); (try (first | contradiction | fail))) | rfl | omega | fail)
  rename_i R hR u0
  have rO := r.out hR
  have bO := out_bnd hB r hR
  show Good _ _ _
  ((with_reducible refine g_id ?_); (conv => arg 3; whnf))
  refine g_loop lay_ok 400 (Z := Nat × Grf) (fun z => (0 < z.1 → Bnd z.2 ∧ chkG z.2 = 0 ∧ osum z.2.blks < z.1 ∧ deadF z.1 z.2 = (deadF (osum (outG g R).blks + 1) (outG g R))) ∧ (z.1 = 0 → z.2 = (deadF (osum (outG g R).blks + 1) (outG g R)))) (fun z => ⟨[(1, .ptr 5 0), (2, .ptr 6 0), (7, .ptr 7 0), (8, .sl ⟨13, []⟩), (9, .bool (decide (0 < z.1)))], [(0, .list .fz .input g.inp), (1, .list .fz .array g.arrs), (2, .list .fz .block g.blks), (3, .list .fz .ints g.pts), (4, .list .fz .head g.hds), (5, .cells [.sl ⟨0, []⟩, .int .i64 g.vars, .int .i64 g.keep, .sl ⟨1, []⟩, .int .i64 g.shared, .sl ⟨2, []⟩, .sl ⟨3, []⟩, .sl ⟨4, []⟩]), (6, .cells [.val (.slice none 0 0), .int .i64 0, .int .i64 0, .val (.slice none 0 0), .int .i64 0, .val (.slice none 0 0), .val (.slice none 0 0), .val (.slice none 0 0)]), (7, .cells [.sl ⟨8, []⟩, .int .i64 z.2.vars, .int .i64 z.2.keep, .sl ⟨9, []⟩, .int .i64 z.2.shared, .sl ⟨10, []⟩, .sl ⟨11, []⟩, .sl ⟨12, []⟩]), (8, .list .own .input z.2.inp), (9, .list .own .array z.2.arrs), (10, .list .own .block (z.2.blks)), (11, .list .own .ints z.2.pts), (12, .list .own .head z.2.hds), (13, .list .own .ints (mmA R g.blks g.blks.length))], 14⟩) (fun z => z.1) ?_ ⟨(osum (outG g R).blks + 1, outG g R), ⟨fun _ => ⟨bO, chk_iff.2 rO, Nat.lt_succ_self _, rfl⟩, fun h => absurd h (Nat.succ_ne_zero _)⟩, ?_⟩ (fun z hz => ?_)
  · repeat' (first | ((with_reducible refine o_id ?_); (conv => arg 1; whnf); first | (with_reducible exact o_nil) | fail) | fail)
  · ((with_reducible refine s_id ?_); (conv => arg 1; whnf); (with_reducible refine s_some ?_); repeat' (first | ((with_reducible refine o_id ?_); (conv => arg 1; whnf); first | (with_reducible exact o_nil) | (with_reducible refine o_cons ?_ ?_)) | rfl | (simp only [out_v, out_k, out_s, out_i, out_a, out_b, out_p, out_h]; done) | fail))
  clear C0 C1 CW
  obtain ⟨f, H⟩ := z
  obtain ⟨hz1, hz2⟩ := hz
  dsimp only at hz1 hz2 ⊢
  by_cases hfp : 0 < f
  rotate_left
  · have hE := hz2 (by omega)
    subst hE
    repeat' (first | (((with_reducible refine g_id ?_); (conv => arg 3; whnf)); first | (with_reducible refine g_cond lay_ok 400 ?_ ?_ ?_) | (with_reducible refine g_fin ?_ ?_) | fail) | (with_reducible refine q_leave lay_ok 400 ?_) | (with_reducible exact o_nil) | ((with_reducible refine o_id ?_); (conv => arg 1; whnf); first | (with_reducible exact o_nil) | fail) | (intro h; ((try simp only [Int.toNat_natCast] at h); repeat (first | replace h := of_decide_eq_true h | replace h := of_decide_eq_false h | fail)); (try (first | contradiction | fail))) | fail)
    all_goals (((with_reducible refine e_id ?_); (conv => whnf)); refine ⟨R, hR, ?_⟩; ((with_reducible refine s_id ?_); (conv => arg 1; whnf); (with_reducible refine s_some ?_); repeat' (first | ((with_reducible refine o_id ?_); (conv => arg 1; whnf); first | (with_reducible exact o_nil) | (with_reducible refine o_cons ?_ ?_)) | rfl | fail)))
  obtain ⟨bH, cH, oH, dH⟩ := hz1 hfp
  have lH := chk_lv bH cH
  have C2 := c_live H lH
  obtain ⟨e1, e2⟩ := live_rows (g := H)
  generalize hLL : liveL H = LL at *
  have hbl := lH.b
  repeat' (first | (((with_reducible refine g_id ?_); (conv => arg 3; whnf)); first | (with_reducible refine g_cond lay_ok 400 ?_ ?_ ?_) | (refine g_call lay_ok 400 ?_ ?_ ?_ (C2) rfl) | fail) | ((with_reducible refine o_id ?_); (conv => arg 1; whnf); first | (with_reducible exact o_nil) | (with_reducible refine o_cons ?_ ?_)) | (intro h; ((try simp only [Int.toNat_natCast] at h); repeat (first | replace h := of_decide_eq_true h | replace h := of_decide_eq_false h | fail)); (try (first | contradiction | fail))) | rfl | fail)
  ((with_reducible refine g_id ?_); (conv => arg 3; whnf))
  refine g_loop lay_ok 400 (Z := Nat) (fun i => i ≤ H.blks.length) (fun i => ⟨[(1, .ptr 5 0), (2, .ptr 6 0), (7, .ptr 7 0), (8, .sl ⟨13, []⟩), (9, .bool (smR LL H.blks i)), (28, .sl ⟨14, []⟩), (29, .int .i64 (LL.length : Int)), (30, .int .i64 (i : Int))], [(0, .list .fz .input g.inp), (1, .list .fz .array g.arrs), (2, .list .fz .block g.blks), (3, .list .fz .ints g.pts), (4, .list .fz .head g.hds), (5, .cells [.sl ⟨0, []⟩, .int .i64 g.vars, .int .i64 g.keep, .sl ⟨1, []⟩, .int .i64 g.shared, .sl ⟨2, []⟩, .sl ⟨3, []⟩, .sl ⟨4, []⟩]), (6, .cells [.val (.slice none 0 0), .int .i64 0, .int .i64 0, .val (.slice none 0 0), .int .i64 0, .val (.slice none 0 0), .val (.slice none 0 0), .val (.slice none 0 0)]), (7, .cells [.sl ⟨8, []⟩, .int .i64 H.vars, .int .i64 H.keep, .sl ⟨9, []⟩, .int .i64 H.shared, .sl ⟨10, []⟩, .sl ⟨11, []⟩, .sl ⟨12, []⟩]), (8, .list .own .input H.inp), (9, .list .own .array H.arrs), (10, .list .own .block (delR LL H.blks i)), (11, .list .own .ints H.pts), (12, .list .own .head H.hds), (13, .list .own .ints (mmA R g.blks g.blks.length)), (14, .list .own .bools LL)], 15⟩) (fun i => H.blks.length - i) ?_ ⟨0, Nat.zero_le _, ?_⟩ (fun i hi => ?_)
  · repeat' (first | ((with_reducible refine o_id ?_); (conv => arg 1; whnf); first | (with_reducible exact o_nil) | fail) | fail)
  · ((with_reducible refine s_id ?_); (conv => arg 1; whnf); (with_reducible refine s_some ?_); repeat' (first | ((with_reducible refine o_id ?_); (conv => arg 1; whnf); first | (with_reducible exact o_nil) | (with_reducible refine o_cons ?_ ?_)) | rfl | (exact smR_0) | (exact delR_0) | fail))
  have hrl := delR_len (E := LL) (l := H.blks) (z := i)
  by_cases hlt : i < H.blks.length
  · have hgi := delR_ge (E := LL) (l := H.blks) (Nat.le_refl i)
    have hel := e2 i hlt
    have hoy := lH.o _ (mem_gt (c := .block) hlt)
    have hvv := lH.v
    have CU := c_useless H (delR LL H.blks i) i (gt (c := .bools) LL i) (by rw [hrl]; exact hlt) (by rw [hrl]; exact hbl) (by rw [hel]; omega) (by rw [hgi]; exact hoy.1) (by rw [hgi, hel]; exact hoy.2)
    rw [hgi] at CU
    repeat' (first | (((with_reducible refine g_id ?_); (conv => arg 3; whnf)); first | (with_reducible refine g_cond lay_ok 400 ?_ ?_ ?_) | (with_reducible refine g_fin ?_ ?_) | (refine g_callX lay_ok 400 [.ptr 2 0] [.ptr 7 0] ?_ ?_ ?_ CU rfl)) | (with_reducible exact o_nil) | ((with_reducible refine o_id ?_); (conv => arg 1; whnf); first | (with_reducible exact o_nil) | (with_reducible refine o_cons ?_ ?_)) | (intro h; ((try simp only [Int.toNat_natCast] at h); repeat (first | replace h := of_decide_eq_true h | replace h := of_decide_eq_false h | fail)); (try (first | (exfalso; omega) | fail))) | rfl | omega | fail)
    all_goals (refine q_round ⟨i + 1, by omega, by omega, ?_⟩; ((with_reducible refine s_id ?_); (conv => arg 1; whnf); (with_reducible refine s_some ?_); repeat' (first | ((with_reducible refine o_id ?_); (conv => arg 1; whnf); first | (with_reducible exact o_nil) | (with_reducible refine o_cons ?_ ?_)) | rfl | (rw [← smR_s, h, Bool.or_true]) | (rw [← smR_s, h, Bool.or_false]) | (exact delR_s.symm) | fail)))
  have hie : i = H.blks.length := by omega
  subst hie
  have hsG : smR LL H.blks H.blks.length = smG H := by rw [← hLL]; rfl
  have hdG : delR LL H.blks H.blks.length = (delG H).blks := by rw [← hLL]; rfl
  cases hs : smG H
  · rw [deadF_n hfp hs] at dH
    repeat' (first | (((with_reducible refine g_id ?_); (conv => arg 3; whnf)); first | (with_reducible refine g_cond lay_ok 400 ?_ ?_ ?_) | (with_reducible refine g_fin ?_ ?_) | fail) | (with_reducible refine q_leave lay_ok 400 ?_) | (with_reducible exact o_nil) | ((with_reducible refine o_id ?_); (conv => arg 1; whnf); first | (with_reducible exact o_nil) | fail) | (intro h; ((try simp only [Int.toNat_natCast] at h); repeat (first | replace h := of_decide_eq_true h | replace h := of_decide_eq_false h | fail)); (try (first | (exfalso; omega) | fail))) | fail)
    all_goals (refine q_round ⟨(0, delG H), ⟨fun q => absurd q (Nat.lt_irrefl 0), fun _ => dH⟩, hfp, ?_⟩; ((with_reducible refine s_id ?_); (conv => arg 1; whnf); (with_reducible refine s_some ?_); repeat' (first | ((with_reducible refine o_id ?_); (conv => arg 1; whnf); first | (with_reducible exact o_nil) | (with_reducible refine o_cons ?_ ?_)) | rfl | (rw [hsG, hs]; exact (decide_eq_false (Nat.lt_irrefl 0)).symm) | (exact hdG.symm) | fail)))
  have hlt := del_lt hs
  rw [deadF_y hfp hs] at dH
  repeat' (first | (((with_reducible refine g_id ?_); (conv => arg 3; whnf)); first | (with_reducible refine g_cond lay_ok 400 ?_ ?_ ?_) | (with_reducible refine g_fin ?_ ?_) | fail) | (with_reducible refine q_leave lay_ok 400 ?_) | (with_reducible exact o_nil) | ((with_reducible refine o_id ?_); (conv => arg 1; whnf); first | (with_reducible exact o_nil) | fail) | (intro h; ((try simp only [Int.toNat_natCast] at h); repeat (first | replace h := of_decide_eq_true h | replace h := of_decide_eq_false h | fail)); (try (first | (exfalso; omega) | fail))) | fail)
  all_goals (refine q_round ⟨(f - 1, delG H), ⟨fun _ => ⟨del_bnd bH (chk_iff.1 cH), chk_iff.2 (chk_iff.1 cH).del, by dsimp only; omega, dH⟩, fun q => absurd q (by dsimp only; omega)⟩, by dsimp only; omega, ?_⟩; ((with_reducible refine s_id ?_); (conv => arg 1; whnf); (with_reducible refine s_some ?_); repeat' (first | ((with_reducible refine o_id ?_); (conv => arg 1; whnf); first | (with_reducible exact o_nil) | (with_reducible refine o_cons ?_ ?_)) | rfl | (rw [hsG, hs]; exact (decide_eq_true (by dsimp only; omega))) | (exact hdG.symm) | fail)))
end Go.Proofs.Ytonjbhdfimcedaa
namespace Go.Proofs.Ytonjbhdfimcedaa
open Go.RowKit
attribute [local irreducible] stO erO delS curO someD deadO intoN delR smR liveL
set_option maxHeartbeats 4000000 in
set_option maxRecDepth 4000 in
theorem r_useless (g : Grf) (hB : Bnd g) (he : chkG g = 0) (H : LvOK g) : Trip Try.prog 75 [.agg [.sl ⟨0, []⟩, .int .i64 g.vars, .int .i64 g.keep, .sl ⟨1, []⟩, .int .i64 g.shared, .sl ⟨2, []⟩, .sl ⟨3, []⟩, .sl ⟨4, []⟩]] ⟨[], [(0, .list .own .input g.inp), (1, .list .own .array g.arrs), (2, .list .own .block g.blks), (3, .list .own .ints g.pts), (4, .list .own .head g.hds)], 5⟩ (Z := Unit) (fun _ => True) (fun _ => .tup [.agg [.sl ⟨0, []⟩, .int .i64 g.vars, .int .i64 g.keep, .sl ⟨1, []⟩, .int .i64 g.shared, .sl ⟨5, []⟩, .sl ⟨3, []⟩, .sl ⟨4, []⟩], .bool (smG g)]) (fun _ => ⟨[], [(0, .list .own .input g.inp), (1, .list .own .array g.arrs), (3, .list .own .ints g.pts), (4, .list .own .head g.hds), (5, .list .own .block (delG g).blks)], 6⟩) := by
  have C0 := r_liveO g hB he H
  obtain ⟨e1, e2⟩ := live_rows (g := g)
  obtain ⟨hv, hk, hb, hn, hc, ho⟩ := H
  obtain ⟨h1, h2, h3, h4, h5, h6, h7, h8, h9⟩ := hB
  unfold smG delG
  generalize liveL g = LL at *
  refine trip_by (rs := [_, _]) 400 lay_ok Try.func75 rfl (by kernel_rfl) Try.ntmps75 Try.results75 rfl rfl ?_
  repeat' (first | (((with_reducible refine g_id ?_); (conv => arg 3; whnf)); first | (refine g_call lay_ok 400 ?_ ?_ ?_ (C0) rfl) | fail) | ((with_reducible refine o_id ?_); (conv => arg 1; whnf); first | (with_reducible exact o_nil) | (with_reducible refine o_cons ?_ ?_)) | (intro h; ((try simp only [Int.toNat_natCast] at h); repeat (first | replace h := of_decide_eq_true h | fail)); (try (first | contradiction | fail))) | rfl | fail)
  ((with_reducible refine g_id ?_); (conv => arg 3; whnf))
  refine g_loop lay_ok 400 (Z := Nat) (fun z => z ≤ g.blks.length) (fun z => ⟨[(1, .ptr 5 0), (2, .ptr 6 0), (4, .sl ⟨7, []⟩), (6, .bool (smR LL g.blks z)), (7, .int .i64 (z : Int))], [(0, .list .own .input g.inp), (1, .list .own .array g.arrs), (3, .list .own .ints g.pts), (4, .list .own .head g.hds), (5, .cells [.sl ⟨0, []⟩, .int .i64 g.vars, .int .i64 g.keep, .sl ⟨1, []⟩, .int .i64 g.shared, .sl ⟨8, []⟩, .sl ⟨3, []⟩, .sl ⟨4, []⟩]), (6, .cells [.val (.slice none 0 0), .int .i64 0, .int .i64 0, .val (.slice none 0 0), .int .i64 0, .val (.slice none 0 0), .val (.slice none 0 0), .val (.slice none 0 0)]), (7, .list .fz .bools LL), (8, .list .own .block (delR LL g.blks z))], 9⟩) (fun z => g.blks.length - z) ?_ ⟨0, Nat.zero_le _, ?_⟩ (fun i hi => ?_)
  · repeat' (first | ((with_reducible refine o_id ?_); (conv => arg 1; whnf); first | (with_reducible exact o_nil) | fail) | fail)
  · ((with_reducible refine s_id ?_); (conv => arg 1; whnf); (with_reducible refine s_some ?_); repeat' (first | ((with_reducible refine o_id ?_); (conv => arg 1; whnf); first | (with_reducible exact o_nil) | (with_reducible refine o_cons ?_ ?_)) | rfl | (exact smR_0) | (exact delR_0) | fail))
  have hrl := delR_len (E := LL) (l := g.blks) (z := i)
  by_cases hlt : i < g.blks.length
  · have hxm := mem_gt (c := .block) hlt
    have hol := h7 _ hxm
    have hgi := delR_ge (E := LL) (l := g.blks) (Nat.le_refl i)
    have hel := e2 i hlt
    have hoy := ho _ hxm
    repeat' (first | (((with_reducible refine g_id ?_); (conv => arg 3; whnf)); first | (with_reducible refine g_cond lay_ok 400 ?_ ?_ ?_) | fail) | ((with_reducible refine o_id ?_); (conv => arg 1; whnf); first | (with_reducible exact o_nil) | fail) | (intro h; ((try simp only [Int.toNat_natCast] at h); repeat (first | replace h := of_decide_eq_true h | replace h := of_decide_eq_false h | fail)); (try (first | (exfalso; omega) | fail))) | fail)
    ((with_reducible refine g_id ?_); (conv => arg 3; whnf))
    refine g_loop lay_ok 400 (Z := Nat) (fun y => y ≤ List.length (gt (c := .block) g.blks i).ops) (fun y => ⟨[(1, .ptr 5 0), (2, .ptr 6 0), (4, .sl ⟨7, []⟩), (6, .bool (smR LL g.blks i || someD (gt (c := .bools) LL i) (gt (c := .block) g.blks i).ops y)), (7, .int .i64 (i : Int)), (8, .sl ⟨9, []⟩), (9, .sl ⟨10, []⟩), (10, .int .i64 ((y : Int) - 1))], [(0, .list .own .input g.inp), (1, .list .own .array g.arrs), (3, .list .own .ints g.pts), (4, .list .own .head g.hds), (5, .cells [.sl ⟨0, []⟩, .int .i64 g.vars, .int .i64 g.keep, .sl ⟨1, []⟩, .int .i64 g.shared, .sl ⟨8, []⟩, .sl ⟨3, []⟩, .sl ⟨4, []⟩]), (6, .cells [.val (.slice none 0 0), .int .i64 0, .int .i64 0, .val (.slice none 0 0), .int .i64 0, .val (.slice none 0 0), .val (.slice none 0 0), .val (.slice none 0 0)]), (7, .list .fz .bools LL), (8, .list .own .block (delR LL g.blks i)), (9, .list .fz .bool (delS (gt (c := .bools) LL i) (List.drop y (gt (c := .block) g.blks i).ops)).2), (10, .list .own .op (delS (gt (c := .bools) LL i) (List.drop y (gt (c := .block) g.blks i).ops)).1)], 11⟩) (fun y => y) ?_ ⟨List.length (gt (c := .block) g.blks i).ops, Nat.le_refl _, ?_⟩ (fun y hy => ?_)
    · repeat' (first | ((with_reducible refine o_id ?_); (conv => arg 1; whnf); first | (with_reducible exact o_nil) | (with_reducible refine o_cons ?_ ?_)) | omega | (simp only [Int.toNat_natCast, hgi]; omega) | fail)
    · ((with_reducible refine s_id ?_); (conv => arg 1; whnf); (with_reducible refine s_some ?_); repeat' (first | ((with_reducible refine o_id ?_); (conv => arg 1; whnf); first | (with_reducible exact o_nil) | (with_reducible refine o_cons ?_ ?_)) | rfl | omega | (rw [someD_end, Bool.or_false]) | (rw [delS_end]) | (simp only [Int.toNat_natCast, hgi]) | fail))
    rcases y with _ | y
    · repeat' (first | (((with_reducible refine g_id ?_); (conv => arg 3; whnf)); first | (with_reducible refine g_cond lay_ok 400 ?_ ?_ ?_) | (with_reducible refine g_fin ?_ ?_) | (refine g_storeL lay_ok 400 ?_ rfl rfl ?_ ?_) | fail) | (with_reducible refine q_leave lay_ok 400 ?_) | (with_reducible exact o_nil) | (with_reducible refine o_cons ?_ ?_) | ((with_reducible refine o_id ?_); (conv => arg 1; whnf); first | (with_reducible exact o_nil) | (with_reducible refine o_cons ?_ ?_)) | (intro h; ((try simp only [Int.toNat_natCast] at h); repeat (first | replace h := of_decide_eq_true h | replace h := of_decide_eq_false h | fail)); (try (first | contradiction | fail))) | omega | fail)
      all_goals (refine q_round ⟨i + 1, by omega, by omega, ?_⟩; ((with_reducible refine s_id ?_); (conv => arg 1; whnf); (with_reducible refine s_some ?_); repeat' (first | ((with_reducible refine o_id ?_); (conv => arg 1; whnf); first | (with_reducible exact o_nil) | (with_reducible refine o_cons ?_ ?_)) | rfl | (exact smR_s.symm) | (simp only [Int.toNat_natCast]; exact delR_set.symm) | fail)))
    have e8 : (((y + 1 : Nat) : Int) - 1) = (y : Int) := by omega
    rw [e8]
    generalize hM : delR LL g.blks i = M at *
    generalize hN : (delS (gt (c := .bools) LL i) (List.drop (y + 1) (gt (c := .block) g.blks i).ops)).2 = N
    have hnl : N.length = g.vars.toNat := by rw [← hN, ← hel]; exact delS_len.2
    have hdl := (delS_len (e := (gt (c := .bools) LL i)) (l := List.drop (y + 1) (gt (c := .block) g.blks i).ops)).1
    rw [List.length_drop] at hdl
    have hoq : (gt (c := .op) (gt (c := .block) M i).ops y) = (gt (c := .op) (gt (c := .block) g.blks i).ops y) := by rw [hgi]
    have hoyl : y < (gt (c := .block) M i).ops.length := by rw [hgi]; exact hy
    have hO : OpL N.length (gt (c := .op) (gt (c := .block) M i).ops y) := by rw [hoq, hnl]; exact hoy.2 _ (mem_gt (c := .op) hy)
    have o1 := hO.1
    have hDe : deadO (delS (gt (c := .bools) LL i) (List.drop (y + 1) (gt (c := .block) g.blks i).ops)).2 (gt (c := .op) (gt (c := .block) g.blks i).ops y) = deadO N (gt (c := .op) (gt (c := .block) M i).ops y) := by rw [hN, hoq]
    by_cases hk : (gt (c := .op) (gt (c := .block) M i).ops y).kind = 1 ∨ (gt (c := .op) (gt (c := .block) M i).ops y).kind = 2 ∨ (gt (c := .op) (gt (c := .block) M i).ops y).kind = 3 ∨ (gt (c := .op) (gt (c := .block) M i).ops y).kind = 4
    · obtain ⟨d0, d1⟩ := o1 hk
      cases hd : gt (c := .bool) N ((gt (c := .op) (gt (c := .block) M i).ops y).dst).toNat
      · have hD := hDe.trans (dead_t hk hd)
        repeat' (first | (((with_reducible refine g_id ?_); (conv => arg 3; whnf)); first | (with_reducible refine g_split lay_ok 400 ?_ ?_ ?_) | (with_reducible refine g_cond lay_ok 400 ?_ ?_ ?_) | (with_reducible refine g_fin ?_ ?_) | (refine g_call lay_ok 400 ?_ ?_ ?_ (r_sets ?_) rfl) | fail) | ((with_reducible refine o_id ?_); (conv => arg 1; whnf); first | (with_reducible exact o_nil) | (with_reducible refine o_cons ?_ ?_)) | (intro h; ((try simp only [Int.toNat_natCast] at h); repeat (first | replace h := of_decide_eq_true h | replace h := of_decide_eq_false h | replace h := not_t h | replace h := not_f h | fail)); (try (first | contradiction | (exfalso; omega) | exact Bool.noConfusion (h.symm.trans (by assumption) : true = false) | fail))) | rfl | omega | assumption | (simp only [Int.toNat_natCast]; omega) | fail)
        all_goals (refine q_round ⟨y, by omega, by omega, ?_⟩; ((with_reducible refine s_id ?_); (conv => arg 1; whnf); (with_reducible refine s_some ?_); repeat' (first | ((with_reducible refine o_id ?_); (conv => arg 1; whnf); first | (with_reducible exact o_nil) | (with_reducible refine o_cons ?_ ?_)) | rfl | (rw [someD_y hy hD, Bool.or_true]) | (rw [delS_y hy hD, hN]) | (rw [delS_y hy hD]) | fail)))
      have hD := hDe.trans (dead_f2 hd)
      repeat' (first | (((with_reducible refine g_id ?_); (conv => arg 3; whnf)); first | (with_reducible refine g_split lay_ok 400 ?_ ?_ ?_) | (with_reducible refine g_cond lay_ok 400 ?_ ?_ ?_) | (with_reducible refine g_fin ?_ ?_) | (refine g_call lay_ok 400 ?_ ?_ ?_ (r_sets ?_) rfl) | (refine g_call lay_ok 400 ?_ ?_ ?_ (r_step ?_ ?_ ?_ ?_) rfl) | fail) | ((with_reducible refine o_id ?_); (conv => arg 1; whnf); first | (with_reducible exact o_nil) | (with_reducible refine o_cons ?_ ?_)) | (intro h; ((try simp only [Int.toNat_natCast] at h); repeat (first | replace h := of_decide_eq_true h | replace h := of_decide_eq_false h | replace h := not_t h | replace h := not_f h | fail)); (try (first | contradiction | (exfalso; omega) | exact Bool.noConfusion (h.symm.trans (by assumption) : false = true) | fail))) | rfl | omega | assumption | (simp only [List.length_append, List.length_cons, List.length_nil]; omega) | (simp only [Int.toNat_natCast]; omega) | fail)
      all_goals (refine q_round ⟨y, by omega, by omega, ?_⟩; ((with_reducible refine s_id ?_); (conv => arg 1; whnf); (with_reducible refine s_some ?_); repeat' (first | ((with_reducible refine o_id ?_); (conv => arg 1; whnf); first | (with_reducible exact o_nil) | (with_reducible refine o_cons ?_ ?_)) | rfl | (rw [someD_n hy hD]) | (simp only [Int.toNat_natCast]; rw [delS_n hy hD, hN, hoq]) | fail)))
    have hD := hDe.trans (dead_f1 hk)
    repeat' (first | (((with_reducible refine g_id ?_); (conv => arg 3; whnf)); first | (with_reducible refine g_split lay_ok 400 ?_ ?_ ?_) | (with_reducible refine g_cond lay_ok 400 ?_ ?_ ?_) | (with_reducible refine g_fin ?_ ?_) | (refine g_call lay_ok 400 ?_ ?_ ?_ (r_sets ?_) rfl) | (refine g_call lay_ok 400 ?_ ?_ ?_ (r_step ?_ ?_ ?_ ?_) rfl) | fail) | ((with_reducible refine o_id ?_); (conv => arg 1; whnf); first | (with_reducible exact o_nil) | (with_reducible refine o_cons ?_ ?_)) | (intro h; ((try simp only [Int.toNat_natCast] at h); repeat (first | replace h := of_decide_eq_true h | replace h := of_decide_eq_false h | fail)); (try (first | contradiction | (exfalso; omega) | fail))) | rfl | omega | assumption | (simp only [List.length_append, List.length_cons, List.length_nil]; omega) | (simp only [Int.toNat_natCast]; omega) | fail)
    all_goals (refine q_round ⟨y, by omega, by omega, ?_⟩; ((with_reducible refine s_id ?_); (conv => arg 1; whnf); (with_reducible refine s_some ?_); repeat' (first | ((with_reducible refine o_id ?_); (conv => arg 1; whnf); first | (with_reducible exact o_nil) | (with_reducible refine o_cons ?_ ?_)) | rfl | (rw [someD_n hy hD]) | (simp only [Int.toNat_natCast]; rw [delS_n hy hD, hN, hoq]) | fail)))
  have hie : i = g.blks.length := by omega
  subst hie
  repeat' (first | (((with_reducible refine g_id ?_); (conv => arg 3; whnf)); first | (with_reducible refine g_cond lay_ok 400 ?_ ?_ ?_) | (with_reducible refine g_fin ?_ ?_) | fail) | (with_reducible refine q_leave lay_ok 400 ?_) | (with_reducible exact o_nil) | ((with_reducible refine o_id ?_); (conv => arg 1; whnf); first | (with_reducible exact o_nil) | fail) | (intro h; ((try simp only [Int.toNat_natCast] at h); repeat (first | replace h := of_decide_eq_true h | replace h := of_decide_eq_false h | fail)); (try (first | (exfalso; omega) | fail))) | fail)
  all_goals (((with_reducible refine e_id ?_); (conv => whnf)); refine ⟨(), trivial, ?_⟩; ((with_reducible refine s_id ?_); (conv => arg 1; whnf); (with_reducible refine s_some ?_); repeat' (first | ((with_reducible refine o_id ?_); (conv => arg 1; whnf); first | (with_reducible exact o_nil) | (with_reducible refine o_cons ?_ ?_)) | rfl | fail)))
end Go.Proofs.Ytonjbhdfimcedaa
namespace Go.Proofs.Ytonjbhdfimcedaa
open Go.RowKit
attribute [local irreducible] stO erO delS curO someD deadO intoN delR smR liveL chkG opsN deadF outG mmA osum plT cntN kpt
set_option maxHeartbeats 4000000 in
theorem r_DeadE (g : Grf) (hB : Bnd g) (he : ¬ chkG g = 0) : Trip Try.prog 39 [.agg [.sl ⟨0, []⟩, .int .i64 g.vars, .int .i64 g.keep, .sl ⟨1, []⟩, .int .i64 g.shared, .sl ⟨2, []⟩, .sl ⟨3, []⟩, .sl ⟨4, []⟩]] ⟨[], [(0, .list .fz .input g.inp), (1, .list .fz .array g.arrs), (2, .list .fz .block g.blks), (3, .list .fz .ints g.pts), (4, .list .fz .head g.hds)], 5⟩ (Z := Unit) (fun _ => True) (fun _ => .tup [.agg [.val (.slice none 0 0), .int .i64 0, .int .i64 0, .val (.slice none 0 0), .int .i64 0, .val (.slice none 0 0), .val (.slice none 0 0), .val (.slice none 0 0)], .val (.slice none 0 0), .int .i64 (chkG g)]) (fun _ => ⟨[], [(0, .list .fz .input g.inp), (1, .list .fz .array g.arrs), (2, .list .fz .block g.blks), (3, .list .fz .ints g.pts), (4, .list .fz .head g.hds)], 5⟩) := by
  refine trip_by (rs := [_, _, _]) 400 lay_ok Try.func39 rfl (by kernel_rfl) Try.ntmps39 Try.results39 rfl rfl ?_
  repeat' (first | (((with_reducible refine g_id ?_); (conv => arg 3; whnf)); first | (with_reducible refine g_cond lay_ok 400 ?_ ?_ ?_) | (with_reducible refine g_fin ?_ ?_) | (refine g_call lay_ok 400 ?_ ?_ ?_ (r_check1 ?_ ?_) rfl)) | ((with_reducible refine o_id ?_); (conv => arg 1; whnf); first | (with_reducible exact o_nil) | (with_reducible refine o_cons ?_ ?_)) | (intro h; ((try simp only [Int.toNat_natCast] at h); repeat (first | replace h := of_decide_eq_true h | replace h := of_decide_eq_false h | replace h := not_t h | replace h := not_f h | fail)); (try (first | contradiction | fail))) | rfl | omega | fail)
  all_goals (((with_reducible refine e_id ?_); (conv => whnf)); refine ⟨(), trivial, ?_⟩; ((with_reducible refine s_id ?_); (conv => arg 1; whnf); (with_reducible refine s_some ?_); repeat' (first | ((with_reducible refine o_id ?_); (conv => arg 1; whnf); first | (with_reducible exact o_nil) | (with_reducible refine o_cons ?_ ?_)) | rfl | fail)))
set_option maxHeartbeats 4000000 in
set_option maxRecDepth 4000 in
theorem r_DeadO (g : Grf) (hB : Bnd g) (he : chkG g = 0) : Trip Try.prog 39 [.agg [.sl ⟨0, []⟩, .int .i64 g.vars, .int .i64 g.keep, .sl ⟨1, []⟩, .int .i64 g.shared, .sl ⟨2, []⟩, .sl ⟨3, []⟩, .sl ⟨4, []⟩]] ⟨[], [(0, .list .fz .input g.inp), (1, .list .fz .array g.arrs), (2, .list .fz .block g.blks), (3, .list .fz .ints g.pts), (4, .list .fz .head g.hds)], 5⟩ (Z := List Bool) (RchL g) (fun R => .tup [.agg [.sl ⟨5, []⟩, .int .i64 ((deadF (osum (outG g R).blks + 1) (outG g R))).vars, .int .i64 ((deadF (osum (outG g R).blks + 1) (outG g R))).keep, .sl ⟨6, []⟩, .int .i64 ((deadF (osum (outG g R).blks + 1) (outG g R))).shared, .sl ⟨7, []⟩, .sl ⟨8, []⟩, .sl ⟨9, []⟩], .sl ⟨10, []⟩, .int .i64 0]) (fun R => ⟨[], [(0, .list .fz .input g.inp), (1, .list .fz .array g.arrs), (2, .list .fz .block g.blks), (3, .list .fz .ints g.pts), (4, .list .fz .head g.hds), (5, .list .own .input (deadF (osum (outG g R).blks + 1) (outG g R)).inp), (6, .list .own .array (deadF (osum (outG g R).blks + 1) (outG g R)).arrs), (7, .list .own .block ((deadF (osum (outG g R).blks + 1) (outG g R)).blks)), (8, .list .own .ints (deadF (osum (outG g R).blks + 1) (outG g R)).pts), (9, .list .own .head (deadF (osum (outG g R).blks + 1) (outG g R)).hds), (10, .list .own .ints (mmA R g.blks g.blks.length))], 11⟩) := by
  have C0 := r_check1 g hB
  rw [he] at C0
  have r := chk_iff.1 he
  have w := chk_wf hB he
  have hb0 : 0 < g.blks.length ∧ g.blks.length ≤ 1048576 := ⟨w.b.1, by have := w.b.2; omega⟩
  have C1 := r_Reached g hb0 (fun y hy => (w.n y hy).2) (fun y hy => (w.n y hy).1)
  refine trip_by (rs := [_, _, _]) 400 lay_ok Try.func39 rfl (by kernel_rfl) Try.ntmps39 Try.results39 rfl rfl ?_
  repeat' (first | (((with_reducible refine g_id ?_); (conv => arg 3; whnf)); first | (with_reducible refine g_cond lay_ok 400 ?_ ?_ ?_) | (refine g_call lay_ok 400 ?_ ?_ ?_ (C0) rfl) | (refine g_call lay_ok 400 ?_ ?_ ?_ (C1) rfl) | fail) | ((with_reducible refine o_id ?_); (conv => arg 1; whnf); first | (with_reducible exact o_nil) | (with_reducible refine o_cons ?_ ?_)) | (intro h; ((try simp only [Int.toNat_natCast] at h); repeat (first | replace h := of_decide_eq_true h | replace h := of_decide_eq_false h | replace h := not_t h | replace h := not_f h | fail)); (try (first | contradiction | fail))) | rfl | fail)
  rename_i R
  have hR := h
  have hRl := hR.1
  ((with_reducible refine g_id ?_); (conv => arg 3; whnf))
  refine g_loop lay_ok 400 (Z := Nat) (fun z => z ≤ g.blks.length) (fun z => ⟨[(1, .ptr 5 0), (2, .ptr 6 0), (6, .sl ⟨7, []⟩), (7, .sl ⟨8, []⟩), (8, .sl ⟨9, []⟩), (9, .int .i64 (cntN R g.blks z : Int)), (10, .int .i64 (z : Int))], [(0, .list .fz .input g.inp), (1, .list .fz .array g.arrs), (2, .list .fz .block g.blks), (3, .list .fz .ints g.pts), (4, .list .fz .head g.hds), (5, .cells [.sl ⟨0, []⟩, .int .i64 g.vars, .int .i64 g.keep, .sl ⟨1, []⟩, .int .i64 g.shared, .sl ⟨2, []⟩, .sl ⟨3, []⟩, .sl ⟨4, []⟩]), (6, .cells [.val (.slice none 0 0), .int .i64 0, .int .i64 0, .val (.slice none 0 0), .int .i64 0, .val (.slice none 0 0), .val (.slice none 0 0), .val (.slice none 0 0)]), (7, .list .own .bool R), (8, .list .own .int (plT R g.blks z)), (9, .list .own .ints (mmA R g.blks z))], 10⟩) (fun z => g.blks.length - z) ?_ ⟨0, Nat.zero_le _, ?_⟩ (fun z hz => ?_)
  · repeat' (first | ((with_reducible refine o_id ?_); (conv => arg 1; whnf); first | (with_reducible exact o_nil) | (with_reducible refine o_cons ?_ ?_)) | rfl | omega | fail)
  · ((with_reducible refine s_id ?_); (conv => arg 1; whnf); (with_reducible refine s_some ?_); repeat' (first | ((with_reducible refine o_id ?_); (conv => arg 1; whnf); first | (with_reducible exact o_nil) | (with_reducible refine o_cons ?_ ?_)) | rfl | (exact plT_0) | (exact mmA_0) | (rw [cnt_0]; rfl) | fail))
  have hpl := plT_len (R := R) hz
  have hcz := cnt_le (R := R) (l := g.blks) z
  have hb2 := w.b.2
  by_cases hlt : z < g.blks.length
  · have hnx := (w.n _ (mem_gt (c := .block) hlt)).1
    cases hb : gt (c := .bool) R z
    · by_cases hn0 : (gt (c := .block) g.blks z).next.length = 0
      · have hk : kpt R g.blks z = true := by unfold kpt; rw [decide_eq_true hn0, Bool.or_true]
        repeat' (first | (((with_reducible refine g_id ?_); (conv => arg 3; whnf)); first | (with_reducible refine g_split lay_ok 400 ?_ ?_ ?_) | (with_reducible refine g_cond lay_ok 400 ?_ ?_ ?_) | (with_reducible refine g_fin ?_ ?_) | (refine g_ownA lay_ok 400 0 .int ?_ rfl rfl rfl ?_ ?_)) | ((with_reducible refine o_id ?_); (conv => arg 1; whnf); first | (with_reducible exact o_nil) | (with_reducible refine o_cons ?_ ?_)) | (intro h; ((try simp only [Int.toNat_natCast] at h); repeat (first | replace h := of_decide_eq_true h | replace h := of_decide_eq_false h | fail)); (try (first | (exfalso; omega) | exact Bool.noConfusion (h.symm.trans (by assumption) : true = false) | fail))) | omega | (rw [List.length_set, hpl]; omega) | (simp only [mmA_len, List.length_cons, List.length_nil]; omega) | fail)
        all_goals (refine q_round ⟨z + 1, by omega, by omega, ?_⟩; ((with_reducible refine s_id ?_); (conv => arg 1; whnf); (with_reducible refine s_some ?_); repeat' (first | ((with_reducible refine o_id ?_); (conv => arg 1; whnf); first | (with_reducible exact o_nil) | (with_reducible refine o_cons ?_ ?_)) | rfl | (rw [cnt_y hk]; rfl) | (exact (plT_y hlt hk rfl).symm) | (exact (mmA_y hk rfl).symm) | fail)))
      have hk : kpt R g.blks z = false := by unfold kpt; rw [decide_eq_false hn0, Bool.or_false]; exact hb
      repeat' (first | (((with_reducible refine g_id ?_); (conv => arg 3; whnf)); first | (with_reducible refine g_split lay_ok 400 ?_ ?_ ?_) | (with_reducible refine g_cond lay_ok 400 ?_ ?_ ?_) | (with_reducible refine g_fin ?_ ?_) | fail) | ((with_reducible refine o_id ?_); (conv => arg 1; whnf); first | (with_reducible exact o_nil) | (with_reducible refine o_cons ?_ ?_)) | (intro h; ((try simp only [Int.toNat_natCast] at h); repeat (first | replace h := of_decide_eq_true h | replace h := of_decide_eq_false h | fail)); (try (first | (exfalso; omega) | exact Bool.noConfusion (h.symm.trans (by assumption) : true = false) | fail))) | omega | (simp only [mmA_len, List.length_cons, List.length_nil]; omega) | fail)
      all_goals (refine q_round ⟨z + 1, by omega, by omega, ?_⟩; ((with_reducible refine s_id ?_); (conv => arg 1; whnf); (with_reducible refine s_some ?_); repeat' (first | ((with_reducible refine o_id ?_); (conv => arg 1; whnf); first | (with_reducible exact o_nil) | (with_reducible refine o_cons ?_ ?_)) | rfl | (rw [cnt_n hk]) | (exact (plT_n hlt hk).symm) | (exact (mmA_n hk).symm) | fail)))
    have hk : kpt R g.blks z = true := by unfold kpt; rw [show bg R z = true from hb, Bool.true_or]
    repeat' (first | (((with_reducible refine g_id ?_); (conv => arg 3; whnf)); first | (with_reducible refine g_split lay_ok 400 ?_ ?_ ?_) | (with_reducible refine g_cond lay_ok 400 ?_ ?_ ?_) | (with_reducible refine g_fin ?_ ?_) | (refine g_ownA lay_ok 400 0 .int ?_ rfl rfl rfl ?_ ?_)) | ((with_reducible refine o_id ?_); (conv => arg 1; whnf); first | (with_reducible exact o_nil) | (with_reducible refine o_cons ?_ ?_)) | (intro h; ((try simp only [Int.toNat_natCast] at h); repeat (first | replace h := of_decide_eq_true h | replace h := of_decide_eq_false h | fail)); (try (first | (exfalso; omega) | exact Bool.noConfusion (h.symm.trans (by assumption) : false = true) | fail))) | omega | (rw [List.length_set, hpl]; omega) | (simp only [mmA_len, List.length_cons, List.length_nil]; omega) | fail)
    all_goals (refine q_round ⟨z + 1, by omega, by omega, ?_⟩; ((with_reducible refine s_id ?_); (conv => arg 1; whnf); (with_reducible refine s_some ?_); repeat' (first | ((with_reducible refine o_id ?_); (conv => arg 1; whnf); first | (with_reducible exact o_nil) | (with_reducible refine o_cons ?_ ?_)) | rfl | (rw [cnt_y hk]; rfl) | (exact (plT_y hlt hk rfl).symm) | (exact (mmA_y hk rfl).symm) | fail)))
  have e : z = g.blks.length := by omega
  subst e
  have CR := r_rnm g (plT R g.blks g.blks.length) hB hpl (fun x hx n hn => by rw [hpl]; exact (w.n x hx).2 n hn) (fun x hx n hn => by rw [hpl]; exact (w.q x hx).2 n hn) (fun x hx => by rw [hpl]; exact w.k x hx)
  have rO := r.out hR
  have bO := out_bnd hB r hR
  repeat' (first | (((with_reducible refine g_id ?_); (conv => arg 3; whnf)); first | (with_reducible refine g_cond lay_ok 400 ?_ ?_ ?_) | (with_reducible refine g_fin ?_ ?_) | (refine g_call lay_ok 400 ?_ ?_ ?_ (CR) rfl) | fail) | (with_reducible refine q_leave lay_ok 400 ?_) | (with_reducible exact o_nil) | ((with_reducible refine o_id ?_); (conv => arg 1; whnf); first | (with_reducible exact o_nil) | (with_reducible refine o_cons ?_ ?_)) | (intro h; ((try simp only [Int.toNat_natCast] at h); repeat (first | replace h := of_decide_eq_true h | replace h := of_decide_eq_false h | fail)); (try (first | (exfalso; omega) | fail))) | rfl | fail)
  ((with_reducible refine g_id ?_); (conv => arg 3; whnf))
  refine g_loop lay_ok 400 (Z := Nat × Grf) (fun z => (0 < z.1 → Bnd z.2 ∧ chkG z.2 = 0 ∧ osum z.2.blks < z.1 ∧ deadF z.1 z.2 = (deadF (osum (outG g R).blks + 1) (outG g R))) ∧ (z.1 = 0 → z.2 = (deadF (osum (outG g R).blks + 1) (outG g R)))) (fun z => ⟨[(1, .ptr 5 0), (2, .ptr 6 0), (8, .sl ⟨13, []⟩), (11, .ptr 7 0), (12, .bool (decide (0 < z.1)))], [(0, .list .fz .input g.inp), (1, .list .fz .array g.arrs), (2, .list .fz .block g.blks), (3, .list .fz .ints g.pts), (4, .list .fz .head g.hds), (5, .cells [.sl ⟨0, []⟩, .int .i64 g.vars, .int .i64 g.keep, .sl ⟨1, []⟩, .int .i64 g.shared, .sl ⟨2, []⟩, .sl ⟨3, []⟩, .sl ⟨4, []⟩]), (6, .cells [.val (.slice none 0 0), .int .i64 0, .int .i64 0, .val (.slice none 0 0), .int .i64 0, .val (.slice none 0 0), .val (.slice none 0 0), .val (.slice none 0 0)]), (7, .cells [.sl ⟨8, []⟩, .int .i64 z.2.vars, .int .i64 z.2.keep, .sl ⟨9, []⟩, .int .i64 z.2.shared, .sl ⟨10, []⟩, .sl ⟨11, []⟩, .sl ⟨12, []⟩]), (8, .list .own .input z.2.inp), (9, .list .own .array z.2.arrs), (10, .list .own .block (z.2.blks)), (11, .list .own .ints z.2.pts), (12, .list .own .head z.2.hds), (13, .list .own .ints (mmA R g.blks g.blks.length))], 14⟩) (fun z => z.1) ?_ ⟨(osum (outG g R).blks + 1, outG g R), ⟨fun _ => ⟨bO, chk_iff.2 rO, Nat.lt_succ_self _, rfl⟩, fun h => absurd h (Nat.succ_ne_zero _)⟩, ?_⟩ (fun z hz => ?_)
  · repeat' (first | ((with_reducible refine o_id ?_); (conv => arg 1; whnf); first | (with_reducible exact o_nil) | fail) | fail)
  · ((with_reducible refine s_id ?_); (conv => arg 1; whnf); (with_reducible refine s_some ?_); repeat' (first | ((with_reducible refine o_id ?_); (conv => arg 1; whnf); first | (with_reducible exact o_nil) | (with_reducible refine o_cons ?_ ?_)) | rfl | (simp only [out_v, out_k, out_s, out_i, out_a, out_b, out_p, out_h]; done) | fail))
  clear C0 C1 CR
  obtain ⟨f, H⟩ := z
  obtain ⟨hz1, hz2⟩ := hz
  dsimp only at hz1 hz2 ⊢
  by_cases hfp : 0 < f
  rotate_left
  · have hE := hz2 (by omega)
    subst hE
    repeat' (first | (((with_reducible refine g_id ?_); (conv => arg 3; whnf)); first | (with_reducible refine g_cond lay_ok 400 ?_ ?_ ?_) | (with_reducible refine g_fin ?_ ?_) | fail) | (with_reducible refine q_leave lay_ok 400 ?_) | (with_reducible exact o_nil) | ((with_reducible refine o_id ?_); (conv => arg 1; whnf); first | (with_reducible exact o_nil) | fail) | (intro h; ((try simp only [Int.toNat_natCast] at h); repeat (first | replace h := of_decide_eq_true h | replace h := of_decide_eq_false h | fail)); (try (first | contradiction | fail))) | fail)
    all_goals (((with_reducible refine e_id ?_); (conv => whnf)); refine ⟨R, hR, ?_⟩; ((with_reducible refine s_id ?_); (conv => arg 1; whnf); (with_reducible refine s_some ?_); repeat' (first | ((with_reducible refine o_id ?_); (conv => arg 1; whnf); first | (with_reducible exact o_nil) | (with_reducible refine o_cons ?_ ?_)) | rfl | fail)))
  obtain ⟨bH, cH, oH, dH⟩ := hz1 hfp
  have CU := r_useless H bH cH (chk_lv bH cH)
  cases hs : smG H
  · rw [deadF_n hfp hs] at dH
    repeat' (first | (((with_reducible refine g_id ?_); (conv => arg 3; whnf)); first | (with_reducible refine g_cond lay_ok 400 ?_ ?_ ?_) | (with_reducible refine g_fin ?_ ?_) | (refine g_call lay_ok 400 ?_ ?_ ?_ (CU) rfl) | fail) | ((with_reducible refine o_id ?_); (conv => arg 1; whnf); first | (with_reducible exact o_nil) | (with_reducible refine o_cons ?_ ?_)) | (intro h; ((try simp only [Int.toNat_natCast] at h); repeat (first | replace h := of_decide_eq_true h | replace h := of_decide_eq_false h | fail)); (try (first | contradiction | fail))) | rfl | fail)
    all_goals (refine q_round ⟨(0, delG H), ⟨fun q => absurd q (Nat.lt_irrefl 0), fun _ => dH⟩, hfp, ?_⟩; ((with_reducible refine s_id ?_); (conv => arg 1; whnf); (with_reducible refine s_some ?_); repeat' (first | ((with_reducible refine o_id ?_); (conv => arg 1; whnf); first | (with_reducible exact o_nil) | (with_reducible refine o_cons ?_ ?_)) | rfl | (rw [hs]; exact (decide_eq_false (Nat.lt_irrefl 0)).symm) | fail)))
  have hlt2 := del_lt hs
  rw [deadF_y hfp hs] at dH
  repeat' (first | (((with_reducible refine g_id ?_); (conv => arg 3; whnf)); first | (with_reducible refine g_cond lay_ok 400 ?_ ?_ ?_) | (with_reducible refine g_fin ?_ ?_) | (refine g_call lay_ok 400 ?_ ?_ ?_ (CU) rfl) | fail) | ((with_reducible refine o_id ?_); (conv => arg 1; whnf); first | (with_reducible exact o_nil) | (with_reducible refine o_cons ?_ ?_)) | (intro h; ((try simp only [Int.toNat_natCast] at h); repeat (first | replace h := of_decide_eq_true h | replace h := of_decide_eq_false h | fail)); (try (first | contradiction | fail))) | rfl | fail)
  all_goals (refine q_round ⟨(f - 1, delG H), ⟨fun _ => ⟨del_bnd bH (chk_iff.1 cH), chk_iff.2 (chk_iff.1 cH).del, by dsimp only; omega, dH⟩, fun q => absurd q (by dsimp only; omega)⟩, by dsimp only; omega, ?_⟩; ((with_reducible refine s_id ?_); (conv => arg 1; whnf); (with_reducible refine s_some ?_); repeat' (first | ((with_reducible refine o_id ?_); (conv => arg 1; whnf); first | (with_reducible exact o_nil) | (with_reducible refine o_cons ?_ ?_)) | rfl | (rw [hs]; exact (decide_eq_true (by dsimp only; omega))) | fail)))
end Go.Proofs.Ytonjbhdfimcedaa
namespace Go.Proofs.Ytonjbhdfimcedaa
open Go.RowKit
theorem Trip.det {P : Program} {f : Nat} {av : List SV} {pre : St} {Z : Type} {ψ : Z → Prop} {res : Z → SV} {post : Z → St} (T : Trip P f av pre ψ res post) (z0 : Z) (h : ∀ z, ψ z → z = z0) : Trip P f av pre (Z := Unit) (fun _ => True) (fun _ => res z0) (fun _ => post z0) :=
  ⟨T.can, fun V D0 w hE hD => (T.runs V D0 w hE hD).mono fun e w' ⟨z, V1, hz, r⟩ => by
    have := h z hz
    subst this
    exact ⟨(), V1, trivial, r⟩⟩
theorem rch_ex (g : Grf) : ∃ R, RchL g R := by
  refine ⟨(List.range g.blks.length).map fun b => @decide (Rch g b) (Classical.propDecidable _), by rw [List.length_map, List.length_range], fun b hb => ?_⟩
  have e : bg ((List.range g.blks.length).map fun b => @decide (Rch g b) (Classical.propDecidable _)) b = @decide (Rch g b) (Classical.propDecidable _) := gt_eq (c := .bool) (by rw [List.getElem?_map, List.getElem?_range hb]; rfl)
  rw [e]
  exact @decide_eq_true_iff _ (Classical.propDecidable _)
def FR (g : Grf) (R : List Bool) : Grf := deadF (osum (outG g R).blks + 1) (outG g R)
def MR (g : Grf) (R : List Bool) : List (List Int) := mmA R g.blks g.blks.length
theorem deadF_bnd : ∀ {f : Nat} {g : Grf}, Bnd g → Rgt g → Bnd (deadF f g)
  | 0, g, h, _ => h
  | f + 1, g, h, r => by
    show Bnd (if _ then _ else _)
    split
    · exact deadF_bnd (del_bnd h r) r.del
    · exact del_bnd h r
theorem FR_bnd {g : Grf} {R : List Bool} (hB : Bnd g) (he : chkG g = 0) (hR : RchL g R) : Bnd (FR g R) := deadF_bnd (out_bnd hB (chk_iff.1 he) hR) ((chk_iff.1 he).out hR)
theorem MR_len {g : Grf} {R : List Bool} (hB : Bnd g) : (MR g R).length ≤ 1048576 := by unfold MR; rw [mmA_len]; exact hB.b
theorem MR_in {g : Grf} {R : List Bool} : ∀ x ∈ MR g R, x.length ≤ 1048576 := by
  intro x hx
  unfold MR mmA at hx
  obtain ⟨i, _, rfl⟩ := List.mem_map.1 hx
  unfold mmF
  split
  · exact (by decide : 1 ≤ 1048576)
  · exact (by decide : 0 ≤ 1048576)
attribute [local irreducible] chkG opsN FR MR deadF mmA outG osum
theorem c_Dead2 (g : Grf) (R : List Bool) (hB : Bnd g) (he : chkG g = 0) (hR : RchL g R) : Trip Try.prog 38 [.agg [.sl ⟨0, []⟩, .int .i64 g.vars, .int .i64 g.keep, .sl ⟨1, []⟩, .int .i64 g.shared, .sl ⟨2, []⟩, .sl ⟨3, []⟩, .sl ⟨4, []⟩]] ⟨[], [(0, .list .fz .input g.inp), (1, .list .fz .array g.arrs), (2, .list .fz .block g.blks), (3, .list .fz .ints g.pts), (4, .list .fz .head g.hds)], 5⟩ (Z := Unit) (fun _ => True) (fun _ => .tup [.agg [.sl ⟨5, []⟩, .int .i64 ((FR g R)).vars, .int .i64 ((FR g R)).keep, .sl ⟨6, []⟩, .int .i64 ((FR g R)).shared, .sl ⟨7, []⟩, .sl ⟨8, []⟩, .sl ⟨9, []⟩], .sl ⟨10, []⟩, .int .i64 0]) (fun _ => ⟨[], [(0, .list .fz .input g.inp), (1, .list .fz .array g.arrs), (2, .list .fz .block g.blks), (3, .list .fz .ints g.pts), (4, .list .fz .head g.hds), (5, .list .own .input (FR g R).inp), (6, .list .own .array (FR g R).arrs), (7, .list .own .block ((FR g R).blks)), (8, .list .own .ints (FR g R).pts), (9, .list .own .head (FR g R).hds), (10, .list .own .ints (MR g R))], 11⟩) := by
  have h := (c_DeadO g hB he).det R fun z hz => rch_uniq hz hR
  unfold FR MR
  exact h
theorem r_Dead2 (g : Grf) (R : List Bool) (hB : Bnd g) (he : chkG g = 0) (hR : RchL g R) : Trip Try.prog 39 [.agg [.sl ⟨0, []⟩, .int .i64 g.vars, .int .i64 g.keep, .sl ⟨1, []⟩, .int .i64 g.shared, .sl ⟨2, []⟩, .sl ⟨3, []⟩, .sl ⟨4, []⟩]] ⟨[], [(0, .list .fz .input g.inp), (1, .list .fz .array g.arrs), (2, .list .fz .block g.blks), (3, .list .fz .ints g.pts), (4, .list .fz .head g.hds)], 5⟩ (Z := Unit) (fun _ => True) (fun _ => .tup [.agg [.sl ⟨5, []⟩, .int .i64 ((FR g R)).vars, .int .i64 ((FR g R)).keep, .sl ⟨6, []⟩, .int .i64 ((FR g R)).shared, .sl ⟨7, []⟩, .sl ⟨8, []⟩, .sl ⟨9, []⟩], .sl ⟨10, []⟩, .int .i64 0]) (fun _ => ⟨[], [(0, .list .fz .input g.inp), (1, .list .fz .array g.arrs), (2, .list .fz .block g.blks), (3, .list .fz .ints g.pts), (4, .list .fz .head g.hds), (5, .list .own .input (FR g R).inp), (6, .list .own .array (FR g R).arrs), (7, .list .own .block ((FR g R).blks)), (8, .list .own .ints (FR g R).pts), (9, .list .own .head (FR g R).hds), (10, .list .own .ints (MR g R))], 11⟩) := by
  have h := (r_DeadO g hB he).det R fun z hz => rch_uniq hz hR
  unfold FR MR
  exact h
set_option maxHeartbeats 4000000 in
set_option maxRecDepth 4000 in
theorem c_agree15 (g : Grf) (hB : Bnd g) : Trip Try.prog 18 [.agg [.sl ⟨0, []⟩, .int .i64 g.vars, .int .i64 g.keep, .sl ⟨1, []⟩, .int .i64 g.shared, .sl ⟨2, []⟩, .sl ⟨3, []⟩, .sl ⟨4, []⟩]] ⟨[], [(0, .list .fz .input g.inp), (1, .list .fz .array g.arrs), (2, .list .fz .block g.blks), (3, .list .fz .ints g.pts), (4, .list .fz .head g.hds)], 5⟩ (Z := Unit) (fun _ => True) (fun _ => .tf true) (fun _ => ⟨[], [(0, .list .fz .input g.inp), (1, .list .fz .array g.arrs), (2, .list .fz .block g.blks), (3, .list .fz .ints g.pts), (4, .list .fz .head g.hds)], 5⟩) := by
  by_cases he : chkG g = 0
  · obtain ⟨R, hRR⟩ := rch_ex g
    have hR := FR_bnd hB he hRR
    have hr1 := MR_len (R := R) hB
    have hr2 := MR_in (g := g) (R := R)
    have CD := c_Dead2 g R hB he hRR
    have RD := r_Dead2 g R hB he hRR
    refine trip_by (rs := [_]) 400 lay_ok Try.func18 rfl (by kernel_rfl) Try.ntmps18 Try.results18 rfl rfl ?_
    repeat' (first | (((with_reducible refine g_id ?_); (conv => arg 3; whnf)); first | (with_reducible refine g_split lay_ok 400 ?_ ?_ ?_) | (with_reducible refine g_fin ?_ ?_) | (refine g_call lay_ok 400 ?_ ?_ ?_ (CD) rfl) | (refine g_call lay_ok 400 ?_ ?_ ?_ (RD) rfl) | (refine g_call lay_ok 400 ?_ ?_ ?_ (r_same (FR g R) ?_) rfl) | (refine g_call lay_ok 400 ?_ ?_ ?_ (r_sameL ?_ ?_ ?_) rfl)) | ((with_reducible refine o_id ?_); (conv => arg 1; whnf); first | (with_reducible exact o_nil) | (with_reducible refine o_cons ?_ ?_)) | (intro h; ((try simp only [Int.toNat_natCast] at h); repeat (first | replace h := of_decide_eq_true h | replace h := of_decide_eq_false h | fail)); (try (first | contradiction | fail))) | rfl | omega | (exact hr2 _ (by assumption)))
    all_goals (((with_reducible refine e_id ?_); (conv => whnf)); refine ⟨(), trivial, ?_⟩; ((with_reducible refine s_id ?_); (conv => arg 1; whnf); (with_reducible refine s_some ?_); repeat' (first | ((with_reducible refine o_id ?_); (conv => arg 1; whnf); first | (with_reducible exact o_nil) | (with_reducible refine o_cons ?_ ?_)) | rfl | fail)))
  · refine trip_by (rs := [_]) 400 lay_ok Try.func18 rfl (by kernel_rfl) Try.ntmps18 Try.results18 rfl rfl ?_
    repeat' (first | (((with_reducible refine g_id ?_); (conv => arg 3; whnf)); first | (with_reducible refine g_split lay_ok 400 ?_ ?_ ?_) | (with_reducible refine g_fin ?_ ?_) | (refine g_call lay_ok 400 ?_ ?_ ?_ (c_DeadE ?_ ?_ ?_) rfl) | (refine g_call lay_ok 400 ?_ ?_ ?_ (r_DeadE ?_ ?_ ?_) rfl) | (refine g_call lay_ok 400 ?_ ?_ ?_ (r_same g00 ?_) rfl) | (refine g_call lay_ok 400 ?_ ?_ ?_ (r_sameL [] ?_ ?_) rfl)) | ((with_reducible refine o_id ?_); (conv => arg 1; whnf); first | (with_reducible exact o_nil) | (with_reducible refine o_cons ?_ ?_)) | (intro h; ((try simp only [Int.toNat_natCast] at h); repeat (first | replace h := of_decide_eq_true h | replace h := of_decide_eq_false h | fail)); (try (first | contradiction | fail))) | rfl | omega | (simp only [List.length_append, List.length_cons, List.length_nil]; omega) | (exact g00_bnd) | fail)
    all_goals (((with_reducible refine e_id ?_); (conv => whnf)); refine ⟨(), trivial, ?_⟩; ((with_reducible refine s_id ?_); (conv => arg 1; whnf); (with_reducible refine s_some ?_); repeat' (first | ((with_reducible refine o_id ?_); (conv => arg 1; whnf); first | (with_reducible exact o_nil) | (with_reducible refine o_cons ?_ ?_)) | rfl | fail)))
set_option maxHeartbeats 4000000 in
theorem c_light15 (g : Grf) (hB : Bnd g) : Trip Try.prog 17 [.agg [.sl ⟨0, []⟩, .int .i64 g.vars, .int .i64 g.keep, .sl ⟨1, []⟩, .int .i64 g.shared, .sl ⟨2, []⟩, .sl ⟨3, []⟩, .sl ⟨4, []⟩]] ⟨[], [(0, .list .tmp .input g.inp), (1, .list .tmp .array g.arrs), (2, .list .tmp .block g.blks), (3, .list .tmp .ints g.pts), (4, .list .tmp .head g.hds)], 5⟩ (Z := Bool) (fun _ => True) (fun z => .bool z) (fun _ => ⟨[], [(0, .list .tmp .input g.inp), (1, .list .tmp .array g.arrs), (2, .list .tmp .block g.blks), (3, .list .tmp .ints g.pts), (4, .list .tmp .head g.hds)], 5⟩) := by
  obtain ⟨h1, h2, h3, h4, h5, h6, h7, h8, h9⟩ := hB
  refine trip_by (rs := [_]) 400 lay_ok Try.func17 rfl (by kernel_rfl) Try.ntmps17 Try.results17 rfl rfl ?_
  repeat' (first | (((with_reducible refine g_id ?_); (conv => arg 3; whnf)); first | (with_reducible refine g_split lay_ok 400 ?_ ?_ ?_) | fail) | fail)
  refine g_loop lay_ok 400 (Z := (Nat × Int)) (fun z => z.1 ≤ g.blks.length ∧ 0 ≤ z.2 ∧ z.2 ≤ 3145728 + (z.1 : Int) * 2097154) (fun z => ⟨[(1, .ptr 5 0), (3, .int .i64 z.2), (4, .int .i64 (z.1 : Int))], [(0, .list .tmp .input g.inp), (1, .list .tmp .array g.arrs), (2, .list .tmp .block g.blks), (3, .list .tmp .ints g.pts), (4, .list .tmp .head g.hds), (5, .cells [.sl ⟨0, []⟩, .int .i64 g.vars, .int .i64 g.keep, .sl ⟨1, []⟩, .int .i64 g.shared, .sl ⟨2, []⟩, .sl ⟨3, []⟩, .sl ⟨4, []⟩])], 6⟩) (fun z => g.blks.length - z.1) ?_ ⟨(0, (g.inp.length : Int) + g.arrs.length + g.hds.length), ⟨Nat.zero_le _, by dsimp only; omega, by dsimp only; omega⟩, ?_⟩ (fun z hz => ?_)
  · repeat' (first | ((with_reducible refine o_id ?_); (conv => arg 1; whnf); first | (with_reducible exact o_nil) | (with_reducible refine o_cons ?_ ?_)) | omega | fail)
  · ((with_reducible refine s_id ?_); (conv => arg 1; whnf); (with_reducible refine s_some ?_); repeat' (first | ((with_reducible refine o_id ?_); (conv => arg 1; whnf); first | (with_reducible exact o_nil) | (with_reducible refine o_cons ?_ ?_)) | rfl | fail))
  obtain ⟨i, n⟩ := z
  obtain ⟨hz1, hz2, hz3⟩ := hz
  dsimp only at hz1 hz2 hz3 ⊢
  by_cases hlt : i < g.blks.length
  · have ho := h7 _ (mem_gt (c := .block) hlt)
    have hn := h8 _ (mem_gt (c := .block) hlt)
    repeat' (first | (((with_reducible refine g_id ?_); (conv => arg 3; whnf)); first | (with_reducible refine g_cond lay_ok 400 ?_ ?_ ?_) | (with_reducible refine g_fin ?_ ?_) | (refine g_flow 5 lay_ok mixed_ok 400 262144 [0, 1, 0, 4, 0, 28, 60, 124, 252, 511, 0, 1024, 0, 7168, 15360, 31744, 64512, 131071, 262143] (.q 0 (.q 1 (.q 2 (.q 3 (.q 4 (.q 5 (.q 6 (.q 7 (.q 8 (.q 9 (.q 10 (.q 11 (.q 12 (.q 13 (.q 14 (.q 15 (.q 16 (.q 17 (.e 18 [] (.fin) .stop))))))))))))))))))) (by kernel_rfl) ?_ ?_)) | (((with_reducible refine w_id ?_); (conv => arg 4; whnf)); first | (with_reducible refine w_fin ?_ ?_) | (with_reducible refine w_tt ?_) | (with_reducible refine w_eff lay_ok 400 ?_ rfl rfl ?_ ?_)) | (with_reducible refine q_flow ?_ ?_) | ((with_reducible refine h_id ?_); (conv => arg 1; whnf); (with_reducible refine s_some ?_)) | (with_reducible exact o_nil) | ((with_reducible refine o_id ?_); (conv => arg 1; whnf); first | (with_reducible exact o_nil) | (with_reducible refine o_cons ?_ ?_)) | (intro h; ((try simp only [Int.toNat_natCast] at h); repeat (first | replace h := of_decide_eq_true h | replace h := of_decide_eq_false h | fail)); (try (first | (exfalso; omega) | fail))) | omega | (simp only [Int.toNat_natCast]; omega) | fail)
    all_goals (refine q_round ⟨(i + 1, n + 2 + (gt (c := .block) g.blks i).ops.length + (gt (c := .block) g.blks i).next.length), ⟨hlt, by dsimp only; omega, by dsimp only; omega⟩, by dsimp only; omega, ?_⟩; ((with_reducible refine s_id ?_); (conv => arg 1; whnf); (with_reducible refine s_some ?_); repeat' (first | ((with_reducible refine o_id ?_); (conv => arg 1; whnf); first | (with_reducible exact o_nil) | (with_reducible refine o_cons ?_ ?_)) | rfl | fail)))
  · have e : i = g.blks.length := by omega
    subst e
    repeat' (first | (((with_reducible refine g_id ?_); (conv => arg 3; whnf)); first | (with_reducible refine g_cond lay_ok 400 ?_ ?_ ?_) | (with_reducible refine g_fin ?_ ?_) | fail) | (with_reducible refine q_leave lay_ok 400 ?_) | (with_reducible exact o_nil) | ((with_reducible refine o_id ?_); (conv => arg 1; whnf); first | (with_reducible exact o_nil) | fail) | (intro h; ((try simp only [Int.toNat_natCast] at h); repeat (first | replace h := of_decide_eq_true h | replace h := of_decide_eq_false h | fail)); (try (first | (exfalso; omega) | fail))) | fail)
    refine g_loop lay_ok 400 (Z := (Nat × Int)) (fun z => z.1 ≤ g.pts.length ∧ 0 ≤ z.2 ∧ z.2 ≤ 4398049656832 + (z.1 : Int) * 1048577) (fun z => ⟨[(1, .ptr 5 0), (3, .int .i64 z.2), (5, .int .i64 (z.1 : Int))], [(0, .list .tmp .input g.inp), (1, .list .tmp .array g.arrs), (2, .list .tmp .block g.blks), (3, .list .tmp .ints g.pts), (4, .list .tmp .head g.hds), (5, .cells [.sl ⟨0, []⟩, .int .i64 g.vars, .int .i64 g.keep, .sl ⟨1, []⟩, .int .i64 g.shared, .sl ⟨2, []⟩, .sl ⟨3, []⟩, .sl ⟨4, []⟩])], 6⟩) (fun z => g.pts.length - z.1) ?_ ⟨(0, n), ⟨Nat.zero_le _, by dsimp only; omega, by dsimp only; omega⟩, ?_⟩ (fun z hz => ?_)
    · repeat' (first | ((with_reducible refine o_id ?_); (conv => arg 1; whnf); first | (with_reducible exact o_nil) | fail) | fail)
    · ((with_reducible refine s_id ?_); (conv => arg 1; whnf); (with_reducible refine s_some ?_); repeat' (first | ((with_reducible refine o_id ?_); (conv => arg 1; whnf); first | (with_reducible exact o_nil) | (with_reducible refine o_cons ?_ ?_)) | rfl | fail))
    obtain ⟨i, n'⟩ := z
    obtain ⟨hy1, hy2, hy3⟩ := hz
    dsimp only at hy1 hy2 hy3 ⊢
    by_cases hlt : i < g.pts.length
    · have hn := h9 _ (mem_gt (c := .ints) hlt)
      repeat' (first | (((with_reducible refine g_id ?_); (conv => arg 3; whnf)); first | (with_reducible refine g_cond lay_ok 400 ?_ ?_ ?_) | (with_reducible refine g_fin ?_ ?_) | fail) | ((with_reducible refine o_id ?_); (conv => arg 1; whnf); first | (with_reducible exact o_nil) | (with_reducible refine o_cons ?_ ?_)) | (intro h; ((try simp only [Int.toNat_natCast] at h); repeat (first | replace h := of_decide_eq_true h | replace h := of_decide_eq_false h | fail)); (try (first | (exfalso; omega) | fail))) | omega | (simp only [Int.toNat_natCast]; omega) | fail)
      all_goals (refine q_round ⟨(i + 1, n' + 1 + (gt (c := .ints) g.pts i : List Int).length), ⟨hlt, by dsimp only; omega, by dsimp only; omega⟩, by dsimp only; omega, ?_⟩; ((with_reducible refine s_id ?_); (conv => arg 1; whnf); (with_reducible refine s_some ?_); repeat' (first | ((with_reducible refine o_id ?_); (conv => arg 1; whnf); first | (with_reducible exact o_nil) | (with_reducible refine o_cons ?_ ?_)) | rfl | fail)))
    · have e : i = g.pts.length := by omega
      subst e
      repeat' (first | (((with_reducible refine g_id ?_); (conv => arg 3; whnf)); first | (with_reducible refine g_cond lay_ok 400 ?_ ?_ ?_) | (with_reducible refine g_fin ?_ ?_) | fail) | (with_reducible refine q_leave lay_ok 400 ?_) | (with_reducible exact o_nil) | ((with_reducible refine o_id ?_); (conv => arg 1; whnf); first | (with_reducible exact o_nil) | fail) | (intro h; ((try simp only [Int.toNat_natCast] at h); repeat (first | replace h := of_decide_eq_true h | replace h := of_decide_eq_false h | fail)); (try (first | (exfalso; omega) | fail))) | fail)
      all_goals (((with_reducible refine e_id ?_); (conv => whnf)); refine ⟨decide (n' ≤ 1500), trivial, ?_⟩; ((with_reducible refine s_id ?_); (conv => arg 1; whnf); (with_reducible refine s_some ?_); repeat' (first | ((with_reducible refine o_id ?_); (conv => arg 1; whnf); first | (with_reducible exact o_nil) | (with_reducible refine o_cons ?_ ?_)) | rfl | fail)))
end Go.Proofs.Ytonjbhdfimcedaa
namespace Go.Proofs.Ytonjbhdfimcedaa
open Go.RowKit
def opsD : List Op_ := [⟨1, 0, 0, 0, 2⟩, ⟨1, 1, 0, 0, 3⟩]
def gD : Grf := ⟨[], 2, 1, [], 0, [⟨opsD, 0, []⟩], [], []⟩
theorem gD_chk : chkG gD = 0 := by kernel_rfl
theorem gD_bnd : Bnd gD := ⟨by decide, by decide, by decide, by decide, by decide, by decide, by decide, by decide, by decide⟩
theorem gD_rch : RchL gD [true] := by
  refine ⟨rfl, fun b hb => ?_⟩
  have : b = 0 := by
    have : b < 1 := hb
    omega
  subst this
  exact ⟨fun _ => .z, fun _ => rfl⟩
theorem gD_blks : (FR gD [true]).blks = [⟨[⟨1, 0, 0, 0, 2⟩], 0, []⟩] := by kernel_rfl
theorem gD_map : MR gD [true] = [[0]] := by kernel_rfl
attribute [local irreducible] chkG opsN FR MR
set_option maxHeartbeats 4000000 in
set_option maxRecDepth 4000 in
theorem c_awake15  : Trip Try.prog 20 [] ⟨[], [], 0⟩ (Z := Unit) (fun _ => True) (fun _ => .tf true) (fun _ => ⟨[], [], 0⟩) := by
  have CD := c_Dead2 gD [true] gD_bnd gD_chk gD_rch
  refine trip_by (rs := [_]) 400 lay_ok Try.func20 rfl (by kernel_rfl) Try.ntmps20 Try.results20 rfl rfl ?_
  ((with_reducible refine g_id ?_); (conv => arg 3; whnf))
  refine g_ownC lay_ok 400 1 0 .op ?_ rfl ?_ ?_
  · repeat' (first | ((with_reducible refine o_id ?_); (conv => arg 1; whnf); first | (with_reducible exact o_nil) | fail) | fail)
  · repeat' (first | ((with_reducible refine o_id ?_); (conv => arg 1; whnf); first | (with_reducible exact o_nil) | fail) | fail)
  ((with_reducible refine g_id ?_); (conv => arg 3; whnf))
  refine g_wk lay_ok 400 (t := ⟨[(0, .tf false), (12, .agg [.val (.slice none 0 0), .int .i64 2, .int .i64 1, .val (.slice none 0 0), .int .i64 0, .sl ⟨0, []⟩, .val (.slice none 0 0), .val (.slice none 0 0)])], [(0, .list .own .block gD.blks)], 1⟩) ?_ ?_ ?_
  · repeat' (first | (with_reducible exact o_nil) | fail)
  · ((with_reducible refine s_id ?_); (conv => arg 1; whnf); (with_reducible refine s_some ?_); repeat' (first | ((with_reducible refine o_id ?_); (conv => arg 1; whnf); first | (with_reducible exact o_nil) | (with_reducible refine o_cons ?_ ?_)) | rfl | fail))
  ((with_reducible refine g_id ?_); (conv => arg 3; whnf))
  refine g_wk lay_ok 400 (t := ⟨[(0, .tf false), (12, .agg [.val (.slice none 0 0), .int .i64 2, .int .i64 1, .val (.slice none 0 0), .int .i64 0, .sl ⟨0, []⟩, .val (.slice none 0 0), .val (.slice none 0 0)])], [(0, .list .fz .block gD.blks)], 1⟩) ?_ ?_ ?_
  · repeat' (first | (with_reducible exact o_nil) | fail)
  · ((with_reducible refine s_id ?_); (conv => arg 1; whnf); (with_reducible refine s_some ?_); repeat' (first | ((with_reducible refine o_id ?_); (conv => arg 1; whnf); first | (with_reducible exact o_nil) | (with_reducible refine o_cons ?_ ?_)) | rfl | fail))
  repeat' (first | (((with_reducible refine g_id ?_); (conv => arg 3; whnf)); first | (with_reducible refine g_split lay_ok 400 ?_ ?_ ?_) | (with_reducible refine g_fin ?_ ?_) | (refine g_call lay_ok 400 ?_ ?_ ?_ (CD) rfl)) | (with_reducible exact o_nil) | ((with_reducible refine o_id ?_); (conv => arg 1; whnf); first | (with_reducible exact o_nil) | (with_reducible refine o_cons ?_ ?_)) | (intro h; ((try simp only [Int.toNat_natCast] at h); repeat (first | replace h := of_decide_eq_true h | replace h := of_decide_eq_false h | fail)); (try (first | contradiction | (rw [gD_blks] at h; exact absurd h (by decide)) | (rw [gD_map] at h; exact absurd h (by decide)) | fail))) | rfl | omega | fail)
  all_goals (((with_reducible refine e_id ?_); (conv => whnf)); refine ⟨(), trivial, ?_⟩; ((with_reducible refine s_id ?_); (conv => arg 1; whnf); (with_reducible refine s_some ?_); repeat' (first | ((with_reducible refine o_id ?_); (conv => arg 1; whnf); first | (with_reducible exact o_nil) | (with_reducible refine o_cons ?_ ?_)) | (rw [gD_blks]; decide) | fail)))
set_option maxHeartbeats 4000000 in
theorem l_deadRaw (g : Grf) (hB : Bnd g) : Trip Try.prog 6 [.agg [.sl ⟨0, []⟩, .int .i64 g.vars, .int .i64 g.keep, .sl ⟨1, []⟩, .int .i64 g.shared, .sl ⟨2, []⟩, .sl ⟨3, []⟩, .sl ⟨4, []⟩]] ⟨[], [(0, .list .fz .input g.inp), (1, .list .fz .array g.arrs), (2, .list .fz .block g.blks), (3, .list .fz .ints g.pts), (4, .list .fz .head g.hds)], 5⟩ (Z := Unit) (fun _ => True) (fun _ => .bool true) (fun _ => ⟨[], [(0, .list .fz .input g.inp), (1, .list .fz .array g.arrs), (2, .list .fz .block g.blks), (3, .list .fz .ints g.pts), (4, .list .fz .head g.hds)], 5⟩) := by
  refine trip_by (rs := [_]) 400 lay_ok Try.func6 rfl (by kernel_rfl) Try.ntmps6 Try.results6 rfl rfl ?_
  repeat' (first | (((with_reducible refine g_id ?_); (conv => arg 3; whnf)); first | (with_reducible refine g_split lay_ok 400 ?_ ?_ ?_) | (with_reducible refine g_fin ?_ ?_) | (refine g_call lay_ok 400 ?_ ?_ ?_ (c_light15 ?_ ?_) rfl) | (refine g_call lay_ok 400 ?_ ?_ ?_ (c_agree15 ?_ ?_) rfl) | (refine g_call lay_ok 400 ?_ ?_ ?_ (l_live15 ?_ ?_) rfl) | (refine g_call lay_ok 400 ?_ ?_ ?_ (c_awake15) rfl)) | (with_reducible exact o_nil) | ((with_reducible refine o_id ?_); (conv => arg 1; whnf); first | (with_reducible exact o_nil) | (with_reducible refine o_cons ?_ ?_)) | (intro h; ((try simp only [Int.toNat_natCast] at h); repeat (first | replace h := not_t h | replace h := not_f h | fail)); (try (first | contradiction | fail))) | rfl | omega | fail)
  all_goals (((with_reducible refine e_id ?_); (conv => whnf)); refine ⟨(), trivial, ?_⟩; ((with_reducible refine s_id ?_); (conv => arg 1; whnf); (with_reducible refine s_some ?_); repeat' (first | ((with_reducible refine o_id ?_); (conv => arg 1; whnf); first | (with_reducible exact o_nil) | (with_reducible refine o_cons ?_ ?_)) | rfl | fail)))
end Go.Proofs.Ytonjbhdfimcedaa
