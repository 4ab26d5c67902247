/- People: the teams that a user is in; a user is taken out of all. -/
import Derived.Test.YtnealcbmgflaaaaPeC
set_option linter.unusedSimpArgs false
set_option linter.unusedVariables false
namespace Go.Pe
open Go Go.Sl Go.Ls
set_option maxRecDepth 100000
theorem no_one : ∀ u ∈ ([] : List Value), u.oneCell' = true := fun u h => by cases h
theorem team_at {l : List Tm} {x : Tm} (h : x ∈ l) : ∃ i, l[i]? = some x ∧ i < l.length := by
  obtain ⟨i, hi⟩ := List.getElem?_of_mem h
  exact ⟨i, hi, (List.getElem?_eq_some_iff.1 hi).1⟩
def udel (l : List By) (u : By) : List By := match l with
  | [] => []
  | k :: r => if u = k then r else k :: udel r u
theorem enc_udel (l : List By) (u : By) : mdel (encU l) u = encU (udel l u) := by
  induction l with
  | nil => rfl
  | cons k r ih =>
    show mdel ((k, unitV) :: encU r) u = _
    unfold mdel udel
    split
    · rfl
    · rw [ih]; rfl
def outT (u : By) (x : Tm) : Tm := (x.1, x.2.1, udel x.2.2 u)
/-- Where a run through the teams stands: those that are left are as they were. -/
def mid (u : By) (l lf : List Tm) : List Tm := l.map fun x => if x ∈ lf then x else outT u x
theorem mid_all (u : By) (l : List Tm) : mid u l l = l := by
  unfold mid
  rw [List.map_congr_left (g := id) (fun x hx => by rw [if_pos hx]; rfl)]; simp
theorem mid_none (u : By) (l : List Tm) : mid u l [] = l.map (outT u) := by unfold mid; simp
theorem mid_enc (u : By) (l lf : List Tm) : encT (mid u l lf) = encT l := by
  unfold encT mid
  rw [List.map_map]
  refine List.map_congr_left fun x _ => ?_
  simp only [Function.comp]
  split <;> rfl
theorem mid_step {u : By} {l lf : List Tm} {i j : Nat} {x : Tm} (hn : (l.map (·.1)).Nodup) (hlf : lf.Nodup) (hi : l[i]? = some x) (hj : lf[j]? = some x) : mid u l (lf.eraseIdx j) = (mid u l lf).set i (outT u x) := by
  have hne : ∀ y, y ∈ lf.eraseIdx j ↔ y ∈ lf ∧ y ≠ x := fun y => by
    have hp := perm_erase hj
    rw [hp.mem_iff]
    have hx : x ∉ lf.eraseIdx j := by
      have := (hp.nodup_iff.1 hlf)
      rw [List.nodup_cons] at this; exact this.1
    constructor
    · intro h; exact ⟨List.mem_cons_of_mem _ h, fun e => hx (e ▸ h)⟩
    · rintro ⟨h, h2⟩
      rcases List.mem_cons.1 h with h | h
      · exact absurd h h2
      · exact h
  apply List.ext_getElem?
  intro k
  unfold mid
  rw [List.getElem?_set, List.getElem?_map, List.getElem?_map]
  by_cases hk : i = k
  · subst hk
    rw [if_pos rfl, hi, List.length_map, if_pos (List.getElem?_eq_some_iff.1 hi).1]
    simp [hne]
  · rw [if_neg hk]
    cases hy : l[k]? with
    | none => rfl
    | some y =>
      have hyx : y ≠ x := fun e => by
        subst e
        have h1 : (l.map (·.1))[i]? = some y.1 := by rw [List.getElem?_map, hi]; rfl
        have h2 : (l.map (·.1))[k]? = some y.1 := by rw [List.getElem?_map, hy]; rfl
        have hlt := (List.getElem?_eq_some_iff.1 h1).1
        exact hk ((List.getElem?_inj hlt hn).1 (h1.trans h2.symm))
      simp only [Option.map_some, hne]
      by_cases h : y ∈ lf <;> simp [h, hyx]
theorem names_nodup {l : List Tm} (hn : (l.map (·.1)).Nodup) : l.Nodup := List.Pairwise.of_map (·.1) (fun a b h e => h (by rw [e])) hn
set_option maxRecDepth 100000
set_option maxHeartbeats 4000000
attribute [local irreducible] GK GO Yl Wt Ef Hd GH KH wpListIn Code.wpIn toBody roundQ poolOf rs RS YieldOk IterOk VOk row star exs mp lp Sat pt FnOk Rd bodyPost bodyPostM Lv Ret Exit.then Exit.inBlock Exit.noGoto Int.decLt Int.decLe Int.instDecidableEq
attribute [local irreducible] u8s strs likeTo rng rngAt keys encU encT encV inT mid
set_option pp.deepTerms true
set_option pp.maxSteps 1000000
variable {hF H : Hp}
theorem of_ok {m : Nat} {l : List Tm} {u : By} (hl : l.length ≤ 1099511627776) :
    FnOk Go.Proofs.Try.prog 35 [.agg ⟨[.map (some m)]⟩, str u] (teamsC m l) hF (fun v Γ => ∃ p c, v = .slice p (sortS (inT u l)).length c ∧ Γ = row (.slice p (sortS (inT u l)).length c) 9 1 (sortS (inT u l)).length (strs (sortS (inT u l))) :: teamsC m l) := by
  unfold teamsC
  refine FnOk.intro 32 Go.Proofs.Try.func35 rfl rfl fun w0 => ?_
  (repeat (first | refine GK.ro ?_ | (refine GK.box ?_; intro bl) | (refine GK.mkMap ?_; intro bm) | (refine GK.build0 tb ?_; intro bs)))
  refine GL.cons ?_; refine GO.range 1 Wt.o rfl rfl rfl fun r => ?_
  (repeat (first | refine GK.ro ?_ | (refine GK.box ?_; intro bl) | (refine GK.mkMap ?_; intro bm) | (refine GK.build0 tb ?_; intro bs)))
  refine G.loopK (X := List By × Option Addr × Nat × List Tm) [(1, _), (12, _)] (fun (acc, p, c, _) => [(5, .slice p acc.length c)]) (fun (_, _, _, lf) => lf.length) (fun (acc, p, c, lf) => [row (.slice p acc.length c) 9 1 acc.length (strs acc), rng m r (encT l) (encT lf), star (l.map teamC)])
    (fun (acc, _, _, lf) => (acc ++ inT u lf).Perm (inT u l) ∧ ∀ x ∈ lf, x ∈ l) ([], none, 0, l) ⟨List.Perm.refl _, fun x h => h⟩ Sub.o (fun w s => by show Sat [row (.slice none 0 0) 9 1 0 (strs []), rng m r (encT l) (encT l), star (l.map teamC)] _ w; rw [strs_nil]; exact Sl.Sat.row_nil (Sl.Sat.sub SubR.o s)) (fun x hx q hq => ?_)
  obtain ⟨acc, p, c, lf⟩ := x
  dsimp only [List.cons_append, List.nil_append] at hq hx ⊢
  obtain ⟨hx, hin⟩ := hx
  have hal : acc.length ≤ l.length := by
    have h1 := hx.length_eq; have h2 := inT_len u l; rw [List.length_append] at h1; omega
  (repeat (first | refine GK.ro ?_ | (refine GK.box ?_; intro bl) | (refine GK.mkMap ?_; intro bm) | (refine GK.build0 tb ?_; intro bs)))
  refine GL.cons ?_; refine GO.next 1 Wt.o rfl rfl (fun h0 => ?_) (fun j k v hv => ?_)
  · have hlf : lf = [] := by cases lf with
      | nil => rfl
      | cons x r => unfold encT at h0; cases h0
    subst hlf
    have hp : acc.Perm (inT u l) := by unfold inT at hx ⊢; simpa using hx
    have he : sortS acc = sortS (inT u l) := sortS_congr hp
    (repeat (first | refine GK.ro ?_ | (refine GK.box ?_; intro bl) | (refine GK.mkMap ?_; intro bm) | (refine GK.build0 tb ?_; intro bs)))
    refine GL.cons ?_; refine GO.callA (fun hF' hle hH => sort_ok (l := acc) (p := p) (c := c) (by omega)) Wt.o (by kernel_rfl) rfl rfl SubR.o ?_
    rintro v Γ' ⟨rfl, rfl⟩
    (repeat (first | refine GK.ro ?_ | (refine GK.box ?_; intro bl) | (refine GK.mkMap ?_; intro bm) | (refine GK.build0 tb ?_; intro bs)))
    refine GQ.fin1 rfl (Rv.tmp rfl) (Γ' := [row (.slice p acc.length c) 9 1 acc.length (strs (sortS acc)), mp m (encT l), star (l.map teamC)]) (fun w s => ?_) ⟨p, c, ?_, ?_⟩
    · exact Sl.Sat.sub SubR.o (Sat.rng_mp (Sl.Sat.sub (A := [rng m r (encT l) ([] : Es), row (.slice p acc.length c) 9 1 acc.length (strs (sortS acc)), star (l.map teamC)]) SubR.o s))
    · rw [← he, sortS_len]
    · rw [← he, sortS_len]
  · obtain ⟨a, mem, hv2, rfl⟩ := encT_at hv
    rw [encT_erase]
    have hlp := perm_erase hv2
    have hel : (lf.eraseIdx j).length < lf.length := by have := (List.getElem?_eq_some_iff.1 hv2).1; rw [List.length_eraseIdx_of_lt this]; omega
    have hpm := ((inT_perm (u := u) hlp).append_left acc).symm.trans hx
    rw [inT_cons] at hpm
    have hin2 : ∀ x ∈ lf.eraseIdx j, x ∈ l := fun x h => hin x (hlp.mem_iff.2 (List.mem_cons_of_mem _ h))
    obtain ⟨i, hi, hil⟩ := team_at (hin _ (List.mem_of_getElem? hv2))
    obtain ⟨g1, g2⟩ := encU_get mem u
    (repeat (first | refine GK.ro ?_ | (refine GK.box ?_; intro bl) | (refine GK.mkMap ?_; intro bm) | (refine GK.build0 tb ?_; intro bs)))
    refine GL.cons ?_; refine GO.yield Wt.o (Yl.entry 0 rfl rfl) ?_
    refine GK.heap (fun w s => Sat.rngAt_rng s) ?_
    (repeat (first | refine GK.ro ?_ | (refine GK.box ?_; intro bl) | (refine GK.mkMap ?_; intro bm) | (refine GK.build0 tb ?_; intro bs)))
    refine GL.cons ?_; refine GO.yield Wt.o (Yl.heap (Γ' := [teamC (k, a, mem), star ((l.map teamC).eraseIdx i)]) (fun w s => Sat.pullM hi (Sl.Sat.sub SubR.o s)) (Yl.look2 0 (KeyT.str rfl) rfl rfl rfl rfl rfl g1 g2)) ?_
    (repeat (first | refine GK.ro ?_ | (refine GK.box ?_; intro bl) | (refine GK.mkMap ?_; intro bm) | (refine GK.build0 tb ?_; intro bs)))
    refine GL.cons ?_; refine GO.alloc Wt.o (by exact rfl) ?_
    intro ba
    (repeat (first | refine GK.ro ?_ | (refine GK.box ?_; intro bl) | (refine GK.mkMap ?_; intro bm) | (refine GK.build0 tb ?_; intro bs)))
    refine GL.cons ?_; refine Gt.storeAny tb 0 Wt.o rfl rfl rfl rfl no_one rfl rfl ?_
    (repeat (first | refine GK.ro ?_ | (refine GK.box ?_; intro bl) | (refine GK.mkMap ?_; intro bm) | (refine GK.build0 tb ?_; intro bs)))
    (first | refine G.condP rfl (fun hb => ?_) (fun hb => ?_) | refine G.condN rfl (fun hb => ?_) (fun hb => ?_) | refine G.cond rfl (fun hb => ?_) (fun hb => ?_))
    · rw [if_pos hb] at hpm
      (repeat (first | refine GK.ro ?_ | (refine GK.box ?_; intro bl) | (refine GK.mkMap ?_; intro bm) | (refine GK.build0 tb ?_; intro bs)))
      refine GL.cons ?_; refine Gt.buildLit tb (sz := 0) (n := 0) Wt.o rfl rfl (by kernel_rfl) rfl rfl rfl rfl rfl rfl ?_; intro bx; refine GL.cons ?_; (first | refine Gt.append tb 1 Wt.o rfl (.inl ⟨_, rfl⟩) rfl rfl rfl rfl rfl (Src.slice (m := 1) (Rd.blk 0 rfl) (At.all _) rfl (one_of_all rfl)) (by omega) (by omega) ?_ | refine Gt.append tb 2 Wt.o rfl (.inl ⟨_, rfl⟩) rfl rfl rfl rfl rfl (Src.slice (m := 1) (Rd.blk 0 rfl) (At.all _) rfl (one_of_all rfl)) (by omega) (by omega) ?_ | refine Gt.append tb 3 Wt.o rfl (.inl ⟨_, rfl⟩) rfl rfl rfl rfl rfl (Src.slice (m := 1) (Rd.blk 0 rfl) (At.all _) rfl (one_of_all rfl)) (by omega) (by omega) ?_ | refine Gt.append tb 4 Wt.o rfl (.inl ⟨_, rfl⟩) rfl rfl rfl rfl rfl (Src.slice (m := 1) (Rd.blk 0 rfl) (At.all _) rfl (one_of_all rfl)) (by omega) (by omega) ?_ | refine Gt.append tb 5 Wt.o rfl (.inl ⟨_, rfl⟩) rfl rfl rfl rfl rfl (Src.slice (m := 1) (Rd.blk 0 rfl) (At.all _) rfl (one_of_all rfl)) (by omega) (by omega) ?_ | refine Gt.append tb 6 Wt.o rfl (.inl ⟨_, rfl⟩) rfl rfl rfl rfl rfl (Src.slice (m := 1) (Rd.blk 0 rfl) (At.all _) rfl (one_of_all rfl)) (by omega) (by omega) ?_ | refine Gt.append tb 7 Wt.o rfl (.inl ⟨_, rfl⟩) rfl rfl rfl rfl rfl (Src.slice (m := 1) (Rd.blk 0 rfl) (At.all _) rfl (one_of_all rfl)) (by omega) (by omega) ?_ | refine Gt.append tb 8 Wt.o rfl (.inl ⟨_, rfl⟩) rfl rfl rfl rfl rfl (Src.slice (m := 1) (Rd.blk 0 rfl) (At.all _) rfl (one_of_all rfl)) (by omega) (by omega) ?_ | refine Gt.append tb 9 Wt.o rfl (.inl ⟨_, rfl⟩) rfl rfl rfl rfl rfl (Src.slice (m := 1) (Rd.blk 0 rfl) (At.all _) rfl (one_of_all rfl)) (by omega) (by omega) ?_ | refine Gt.append tb 10 Wt.o rfl (.inl ⟨_, rfl⟩) rfl rfl rfl rfl rfl (Src.slice (m := 1) (Rd.blk 0 rfl) (At.all _) rfl (one_of_all rfl)) (by omega) (by omega) ?_ | refine Gt.append tb 11 Wt.o rfl (.inl ⟨_, rfl⟩) rfl rfl rfl rfl rfl (Src.slice (m := 1) (Rd.blk 0 rfl) (At.all _) rfl (one_of_all rfl)) (by omega) (by omega) ?_ | refine Gt.append tb 12 Wt.o rfl (.inl ⟨_, rfl⟩) rfl rfl rfl rfl rfl (Src.slice (m := 1) (Rd.blk 0 rfl) (At.all _) rfl (one_of_all rfl)) (by omega) (by omega) ?_)
      intro p2 c2
      rw [show List.flatMap (fun v : Value => v.cells.toList) [#[Key.val k, Value.map (some a)][0]] = strs [k] from by rw [strs_one]; rfl, ← strs_append, show acc.length + 1 = (acc ++ [k]).length by simp]
      (repeat (first | refine GK.ro ?_ | (refine GK.box ?_; intro bl) | (refine GK.mkMap ?_; intro bm) | (refine GK.build0 tb ?_; intro bs)))
      (refine GQ.againN ((acc ++ [k], p2, c2, lf.eraseIdx j)) ?_ ?_ ?_ ?_; rotate_left; (first | omega | (dsimp only; omega)); exact Sub.o; exact (fun _ s => Sat.sub SubR.o s))
      exact ⟨by simpa using hpm, hin2⟩
    · rw [if_neg hb] at hpm
      (repeat (first | refine GK.ro ?_ | (refine GK.box ?_; intro bl) | (refine GK.mkMap ?_; intro bm) | (refine GK.build0 tb ?_; intro bs)))
      (refine GQ.againN ((acc, p, c, lf.eraseIdx j)) ?_ ?_ ?_ ?_; rotate_left; (first | omega | (dsimp only; omega)); exact Sub.o; exact (fun _ s => Sat.sub SubR.o s))
      exact ⟨hpm, hin2⟩
theorem forget_ok {m : Nat} {l : List Tm} {u : By} (hn : (l.map (·.1)).Nodup) :
    FnOk Go.Proofs.Try.prog 51 [.agg ⟨[.map (some m)]⟩, str u] (teamsC m l) hF (fun v Γ => v = .tuple #[] ∧ Γ = teamsC m (l.map (outT u))) := by
  unfold teamsC
  refine FnOk.intro 15 Go.Proofs.Try.func51 rfl rfl fun w0 => ?_
  (repeat (first | refine GK.ro ?_ | (refine GK.box ?_; intro bl) | (refine GK.mkMap ?_; intro bm) | (refine GK.build0 tb ?_; intro bs)))
  refine GL.cons ?_; refine GO.range 1 Wt.o rfl rfl rfl fun r => ?_
  (repeat (first | refine GK.ro ?_ | (refine GK.box ?_; intro bl) | (refine GK.mkMap ?_; intro bm) | (refine GK.build0 tb ?_; intro bs)))
  refine G.loopK (X := List Tm) [(1, _), (8, _)] (fun _ => []) (fun lf => lf.length) (fun lf => [rng m r (encT l) (encT lf), star ((mid u l lf).map teamC)])
    (fun lf => lf.Nodup ∧ ∀ x ∈ lf, x ∈ l) l ⟨names_nodup hn, fun x h => h⟩ Sub.o (fun w s => by rw [mid_all]; exact Sl.Sat.sub SubR.o s) (fun lf hx q hq => ?_)
  dsimp only [List.cons_append, List.nil_append] at hq hx ⊢
  obtain ⟨hnd, hin⟩ := hx
  (repeat (first | refine GK.ro ?_ | (refine GK.box ?_; intro bl) | (refine GK.mkMap ?_; intro bm) | (refine GK.build0 tb ?_; intro bs)))
  refine GL.cons ?_; refine GO.next 0 Wt.o rfl rfl (fun h0 => ?_) (fun j k v hv => ?_)
  · have hlf : lf = [] := by cases lf with
      | nil => rfl
      | cons x r => unfold encT at h0; cases h0
    subst hlf
    (repeat (first | refine GK.ro ?_ | (refine GK.box ?_; intro bl) | (refine GK.mkMap ?_; intro bm) | (refine GK.build0 tb ?_; intro bs)))
    refine GQ.fin0' rfl (Γ' := [mp m (encT l), star ((mid u l []).map teamC)]) (fun w s => ?_) ⟨rfl, ?_⟩
    · exact Sl.Sat.sub SubR.o (Sat.rng_mp s)
    · rw [← mid_enc u l [], mid_none]
  · obtain ⟨a, mem, hv2, rfl⟩ := encT_at hv
    rw [encT_erase]
    have hlp := perm_erase hv2
    have hel : (lf.eraseIdx j).length < lf.length := by have := (List.getElem?_eq_some_iff.1 hv2).1; rw [List.length_eraseIdx_of_lt this]; omega
    have hin2 : ∀ x ∈ lf.eraseIdx j, x ∈ l := fun x h => hin x (hlp.mem_iff.2 (List.mem_cons_of_mem _ h))
    have hxm := List.mem_of_getElem? hv2
    obtain ⟨i, hi, hil⟩ := team_at (hin _ hxm)
    have hmi : (mid u l lf)[i]? = some (k, a, mem) := by unfold mid; rw [List.getElem?_map, hi]; simp [hxm]
    have hml : (mid u l lf).length = l.length := by unfold mid; simp
    have hst := mid_step (u := u) hn hnd hi hv2
    (repeat (first | refine GK.ro ?_ | (refine GK.box ?_; intro bl) | (refine GK.mkMap ?_; intro bm) | (refine GK.build0 tb ?_; intro bs)))
    refine GL.cons ?_; refine GO.yield Wt.o (Yl.entry 0 rfl rfl) ?_
    (repeat (first | refine GK.ro ?_ | (refine GK.box ?_; intro bl) | (refine GK.mkMap ?_; intro bm) | (refine GK.build0 tb ?_; intro bs)))
    refine GK.heap (Γ' := [teamC (k, a, mem), star (((mid u l lf).map teamC).eraseIdx i), rng m r (encT l) (encT (lf.eraseIdx j))]) (fun w s => ?_) ?_
    · exact Sat.pullM hmi (Sl.Sat.perm (.swap _ _ _) (Sat.rngAt_rng (Sl.Sat.sub SubR.o s)))
    refine GL.cons ?_; refine GO.mapDelete 0 Wt.o (KeyT.str rfl) rfl rfl rfl rfl ?_
    rw [enc_udel]
    refine GK.heap (Γ' := [star ((mid u l (lf.eraseIdx j)).map teamC), rng m r (encT l) (encT (lf.eraseIdx j))]) (fun w s => ?_) ?_
    · rw [hst]
      exact Sat.putM (y := outT u (k, a, mem)) (by omega) s
    (repeat (first | refine GK.ro ?_ | (refine GK.box ?_; intro bl) | (refine GK.mkMap ?_; intro bm) | (refine GK.build0 tb ?_; intro bs)))
    (refine GQ.againN (lf.eraseIdx j) ?_ ?_ ?_ ?_; rotate_left; (first | omega | (dsimp only; omega)); exact Sub.o; exact (fun _ s => Sat.sub SubR.o s))
    exact ⟨List.Sublist.nodup (List.eraseIdx_sublist _ _) hnd, hin2⟩
end Go.Pe
