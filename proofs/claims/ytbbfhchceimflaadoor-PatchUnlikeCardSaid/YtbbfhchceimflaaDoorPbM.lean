/- A twin in new memory. -/
import Derived.Test.YtbbfhchceimflaaDoorPbI
set_option linter.unusedSimpArgs false
set_option linter.unusedVariables false
namespace Go.Pb
open Go Go.Sl Go.Lb Go.Pa Go.Oc
theorem flatMap_set {xs : List (Op1 × Value)} (h69 : ∀ x ∈ xs, (opC x).length = 69) {i : Nat} {o : Op1} {v w : Value} (hx : xs[i]? = some (o, v)) (ho : o.Ok) : (xs.flatMap opC).set (i * 69 + 68) w = (xs.set i (o, w)).flatMap opC := by
  induction xs generalizing i with
  | nil => simp at hx
  | cons a l ih =>
    have ha := h69 a (by simp)
    cases i with
    | zero =>
      simp at hx; subst hx
      rw [List.flatMap_cons, Nat.zero_mul, Nat.zero_add, List.set_append_left _ _ (by omega), List.set_cons_zero, List.flatMap_cons]
      congr 1
      unfold opC
      simp only [List.set_cons_succ]
      rw [List.set_append_right _ _ (by rw [vxC_len ho.up]; omega), vxC_len ho.up, List.set_append_right _ _ (by rw [vxC_len ho.down]; omega), vxC_len ho.down]
      rfl
    | succ i =>
      simp at hx
      rw [List.flatMap_cons, List.set_append_right _ _ (by omega), ha, show (i + 1) * 69 + 68 - 69 = i * 69 + 68 by omega, ih (fun x h => h69 x (by simp [h])) hx, List.set_cons_succ, List.flatMap_cons]
set_option maxRecDepth 100000
set_option maxHeartbeats 4000000
attribute [local irreducible] GK GO Yl Wt Ef Hd GH KH wpListIn Code.wpIn toBody roundQ poolOf rs RS YieldOk IterOk VOk row star exs mp lp Sat pt FnOk Rd bodyPost bodyPostM Lv Ret Exit.then Exit.inBlock Exit.noGoto Int.decLt Int.decLe Int.instDecidableEq
attribute [local irreducible] u8s hs strs vxC opC likeTo Op1.Sm
set_option pp.deepTerms true
set_option pp.maxSteps 1000000
variable {hF H : Hp}
theorem twin_ok {p : Pch} {dv ov : Value} (hp : PaAt H p dv ov) (ho : p.Ok) :
    FnOk Go.Proofs.Tryd.prog 13 [.agg ⟨paC p dv ov⟩] [poolOf H] hF (fun v Γ => ∃ H' dv' ov', le H H' ∧ v = .agg ⟨paC p dv' ov'⟩ ∧ Γ = [poolOf H'] ∧ PaAt H' p dv' ov') := by
  obtain ⟨hd1, xs, hxs, hv1, hl1⟩ := hp
  have hd0 := hd1
  have hv0 := hv1
  obtain ⟨p1, c1, rfl, hc1, hln1, hr1⟩ := rs.out hd1
  obtain ⟨p3, c3, rfl, hc3, hln3, hr3⟩ := rs.out hv1
  have hx69 : ∀ x ∈ xs, (opC x).length = 69 := fun x h => opC_len (ho.op _ (by rw [← hxs]; exact List.mem_map_of_mem h))
  have hone : ∀ u ∈ xs.flatMap opC, u.oneCell' = true := fun u hu => by
    obtain ⟨x, hx, hu⟩ := List.mem_flatMap.1 hu
    exact opC_one (hl1 x hx).one u hu
  have hone1 : ∀ u ∈ hs p.deps, u.oneCell' = true := fun u hu => by
    unfold hs at hu
    obtain ⟨x, hx, hu⟩ := List.mem_flatMap.1 hu
    exact u8s_one _ u hu
  have hol := ho.ops
  have hdl := ho.deps
  refine FnOk.intro 34 Go.Proofs.Tryd.func13 rfl rfl fun w0 => ?_
  (repeat (first | refine GK.ro ?_ | (refine GK.box ?_; intro bl) | (refine GK.mkMap ?_; intro bm) | (refine GK.build0 tb ?_; intro bs) | (refine GL.cons ?_; refine GO.alloc (by first | exact Wt.none | exact Wt.some rfl rfl (by first | exact rfl | decide +kernel)) (by exact rfl) ?_; intro ba) | (refine GL.cons ?_; refine Gt.storeAny tb 0 (by first | exact Wt.none | exact Wt.some rfl rfl (by first | exact rfl | decide +kernel)) (by exact rfl) (by exact rfl) (by exact rfl) (by assumption) (by assumption) (by exact rfl) (by first | exact rfl | assumption) ?_) | (refine GL.cons ?_; refine Gt.storeAny tb 1 (by first | exact Wt.none | exact Wt.some rfl rfl (by first | exact rfl | decide +kernel)) (by exact rfl) (by exact rfl) (by exact rfl) (by assumption) (by assumption) (by exact rfl) (by first | exact rfl | assumption) ?_) | (refine GL.cons ?_; refine Gt.storeAny tb 2 (by first | exact Wt.none | exact Wt.some rfl rfl (by first | exact rfl | decide +kernel)) (by exact rfl) (by exact rfl) (by exact rfl) (by assumption) (by assumption) (by exact rfl) (by first | exact rfl | assumption) ?_) | (refine GL.cons ?_; refine Gt.storeAny tb 3 (by first | exact Wt.none | exact Wt.some rfl rfl (by first | exact rfl | decide +kernel)) (by exact rfl) (by exact rfl) (by exact rfl) (by assumption) (by assumption) (by exact rfl) (by first | exact rfl | assumption) ?_) | (refine GL.cons ?_; refine Gt.storeAny tb 4 (by first | exact Wt.none | exact Wt.some rfl rfl (by first | exact rfl | decide +kernel)) (by exact rfl) (by exact rfl) (by exact rfl) (by assumption) (by assumption) (by exact rfl) (by first | exact rfl | assumption) ?_) | (refine GL.cons ?_; refine Gt.storeAny tb 5 (by first | exact Wt.none | exact Wt.some rfl rfl (by first | exact rfl | decide +kernel)) (by exact rfl) (by exact rfl) (by exact rfl) (by assumption) (by assumption) (by exact rfl) (by first | exact rfl | assumption) ?_) | (refine GL.cons ?_; refine Gt.storeAny tb 6 (by first | exact Wt.none | exact Wt.some rfl rfl (by first | exact rfl | decide +kernel)) (by exact rfl) (by exact rfl) (by exact rfl) (by assumption) (by assumption) (by exact rfl) (by first | exact rfl | assumption) ?_) | (refine GL.cons ?_; refine Gt.storeAny tb 7 (by first | exact Wt.none | exact Wt.some rfl rfl (by first | exact rfl | decide +kernel)) (by exact rfl) (by exact rfl) (by exact rfl) (by assumption) (by assumption) (by exact rfl) (by first | exact rfl | assumption) ?_) | (refine GL.cons ?_; refine Gt.storeAny tb 8 (by first | exact Wt.none | exact Wt.some rfl rfl (by first | exact rfl | decide +kernel)) (by exact rfl) (by exact rfl) (by exact rfl) (by assumption) (by assumption) (by exact rfl) (by first | exact rfl | assumption) ?_) | (refine GL.cons ?_; refine Gt.storeAny tb 9 (by first | exact Wt.none | exact Wt.some rfl rfl (by first | exact rfl | decide +kernel)) (by exact rfl) (by exact rfl) (by exact rfl) (by assumption) (by assumption) (by exact rfl) (by first | exact rfl | assumption) ?_)))
  refine GL.cons ?_
  refine Gt.append0 tb 0 (by first | exact Wt.none | exact Wt.some rfl rfl (by first | exact rfl | decide +kernel)) rfl (.inl ⟨_, rfl⟩) rfl rfl rfl rfl rfl (RS.src (RS.pool 3 rfl hd0) hone1 hln1 ⟨_, _, rfl⟩) (by omega) (by omega) ?_
  intro q1 d1
  (repeat (first | refine GK.ro ?_ | (refine GK.box ?_; intro bl) | (refine GK.mkMap ?_; intro bm) | (refine GK.build0 tb ?_; intro bs) | (refine GL.cons ?_; refine GO.alloc (by first | exact Wt.none | exact Wt.some rfl rfl (by first | exact rfl | decide +kernel)) (by exact rfl) ?_; intro ba) | (refine GL.cons ?_; refine Gt.storeAny tb 0 (by first | exact Wt.none | exact Wt.some rfl rfl (by first | exact rfl | decide +kernel)) (by exact rfl) (by exact rfl) (by exact rfl) (by assumption) (by assumption) (by exact rfl) (by first | exact rfl | assumption) ?_) | (refine GL.cons ?_; refine Gt.storeAny tb 1 (by first | exact Wt.none | exact Wt.some rfl rfl (by first | exact rfl | decide +kernel)) (by exact rfl) (by exact rfl) (by exact rfl) (by assumption) (by assumption) (by exact rfl) (by first | exact rfl | assumption) ?_) | (refine GL.cons ?_; refine Gt.storeAny tb 2 (by first | exact Wt.none | exact Wt.some rfl rfl (by first | exact rfl | decide +kernel)) (by exact rfl) (by exact rfl) (by exact rfl) (by assumption) (by assumption) (by exact rfl) (by first | exact rfl | assumption) ?_) | (refine GL.cons ?_; refine Gt.storeAny tb 3 (by first | exact Wt.none | exact Wt.some rfl rfl (by first | exact rfl | decide +kernel)) (by exact rfl) (by exact rfl) (by exact rfl) (by assumption) (by assumption) (by exact rfl) (by first | exact rfl | assumption) ?_) | (refine GL.cons ?_; refine Gt.storeAny tb 4 (by first | exact Wt.none | exact Wt.some rfl rfl (by first | exact rfl | decide +kernel)) (by exact rfl) (by exact rfl) (by exact rfl) (by assumption) (by assumption) (by exact rfl) (by first | exact rfl | assumption) ?_) | (refine GL.cons ?_; refine Gt.storeAny tb 5 (by first | exact Wt.none | exact Wt.some rfl rfl (by first | exact rfl | decide +kernel)) (by exact rfl) (by exact rfl) (by exact rfl) (by assumption) (by assumption) (by exact rfl) (by first | exact rfl | assumption) ?_) | (refine GL.cons ?_; refine Gt.storeAny tb 6 (by first | exact Wt.none | exact Wt.some rfl rfl (by first | exact rfl | decide +kernel)) (by exact rfl) (by exact rfl) (by exact rfl) (by assumption) (by assumption) (by exact rfl) (by first | exact rfl | assumption) ?_) | (refine GL.cons ?_; refine Gt.storeAny tb 7 (by first | exact Wt.none | exact Wt.some rfl rfl (by first | exact rfl | decide +kernel)) (by exact rfl) (by exact rfl) (by exact rfl) (by assumption) (by assumption) (by exact rfl) (by first | exact rfl | assumption) ?_) | (refine GL.cons ?_; refine Gt.storeAny tb 8 (by first | exact Wt.none | exact Wt.some rfl rfl (by first | exact rfl | decide +kernel)) (by exact rfl) (by exact rfl) (by exact rfl) (by assumption) (by assumption) (by exact rfl) (by first | exact rfl | assumption) ?_) | (refine GL.cons ?_; refine Gt.storeAny tb 9 (by first | exact Wt.none | exact Wt.some rfl rfl (by first | exact rfl | decide +kernel)) (by exact rfl) (by exact rfl) (by exact rfl) (by assumption) (by assumption) (by exact rfl) (by first | exact rfl | assumption) ?_)))
  refine GL.cons ?_
  refine Gt.append0 tb 0 (by first | exact Wt.none | exact Wt.some rfl rfl (by first | exact rfl | decide +kernel)) rfl (.inl ⟨_, rfl⟩) rfl rfl rfl rfl rfl (RS.src (RS.pool 4 rfl hv0) hone hln3 ⟨_, _, rfl⟩) (by omega) (by omega) ?_
  intro q3 d3
  (repeat (first | refine GK.ro ?_ | (refine GK.box ?_; intro bl) | (refine GK.mkMap ?_; intro bm) | (refine GK.build0 tb ?_; intro bs) | (refine GL.cons ?_; refine GO.alloc (by first | exact Wt.none | exact Wt.some rfl rfl (by first | exact rfl | decide +kernel)) (by exact rfl) ?_; intro ba) | (refine GL.cons ?_; refine Gt.storeAny tb 0 (by first | exact Wt.none | exact Wt.some rfl rfl (by first | exact rfl | decide +kernel)) (by exact rfl) (by exact rfl) (by exact rfl) (by assumption) (by assumption) (by exact rfl) (by first | exact rfl | assumption) ?_) | (refine GL.cons ?_; refine Gt.storeAny tb 1 (by first | exact Wt.none | exact Wt.some rfl rfl (by first | exact rfl | decide +kernel)) (by exact rfl) (by exact rfl) (by exact rfl) (by assumption) (by assumption) (by exact rfl) (by first | exact rfl | assumption) ?_) | (refine GL.cons ?_; refine Gt.storeAny tb 2 (by first | exact Wt.none | exact Wt.some rfl rfl (by first | exact rfl | decide +kernel)) (by exact rfl) (by exact rfl) (by exact rfl) (by assumption) (by assumption) (by exact rfl) (by first | exact rfl | assumption) ?_) | (refine GL.cons ?_; refine Gt.storeAny tb 3 (by first | exact Wt.none | exact Wt.some rfl rfl (by first | exact rfl | decide +kernel)) (by exact rfl) (by exact rfl) (by exact rfl) (by assumption) (by assumption) (by exact rfl) (by first | exact rfl | assumption) ?_) | (refine GL.cons ?_; refine Gt.storeAny tb 4 (by first | exact Wt.none | exact Wt.some rfl rfl (by first | exact rfl | decide +kernel)) (by exact rfl) (by exact rfl) (by exact rfl) (by assumption) (by assumption) (by exact rfl) (by first | exact rfl | assumption) ?_) | (refine GL.cons ?_; refine Gt.storeAny tb 5 (by first | exact Wt.none | exact Wt.some rfl rfl (by first | exact rfl | decide +kernel)) (by exact rfl) (by exact rfl) (by exact rfl) (by assumption) (by assumption) (by exact rfl) (by first | exact rfl | assumption) ?_) | (refine GL.cons ?_; refine Gt.storeAny tb 6 (by first | exact Wt.none | exact Wt.some rfl rfl (by first | exact rfl | decide +kernel)) (by exact rfl) (by exact rfl) (by exact rfl) (by assumption) (by assumption) (by exact rfl) (by first | exact rfl | assumption) ?_) | (refine GL.cons ?_; refine Gt.storeAny tb 7 (by first | exact Wt.none | exact Wt.some rfl rfl (by first | exact rfl | decide +kernel)) (by exact rfl) (by exact rfl) (by exact rfl) (by assumption) (by assumption) (by exact rfl) (by first | exact rfl | assumption) ?_) | (refine GL.cons ?_; refine Gt.storeAny tb 8 (by first | exact Wt.none | exact Wt.some rfl rfl (by first | exact rfl | decide +kernel)) (by exact rfl) (by exact rfl) (by exact rfl) (by assumption) (by assumption) (by exact rfl) (by first | exact rfl | assumption) ?_) | (refine GL.cons ?_; refine Gt.storeAny tb 9 (by first | exact Wt.none | exact Wt.some rfl rfl (by first | exact rfl | decide +kernel)) (by exact rfl) (by exact rfl) (by exact rfl) (by assumption) (by assumption) (by exact rfl) (by first | exact rfl | assumption) ?_)))
  refine GK.weak (fr' := [(1, .pointer (some ⟨bl, 0, none⟩)), (2, .pointer (some ⟨ba, 0, none⟩)), (3, .slice q3 p.ops.length d3), (4, .int .i64 ((0 : Nat) : Int))]) (Γ' := [row (.slice q3 p.ops.length d3) 59 69 p.ops.length (xs.flatMap opC), row (.slice q1 p.deps.length d1) 37 32 p.deps.length (hs p.deps), blk ba 25 (0, 0) [str [], .int .i64 0, str [], .slice none 0 0, .slice none 0 0], blk bl 25 (0, 0) [str p.author, .int .i64 p.time, str p.note, .slice q1 p.deps.length d1, .slice p3 p.ops.length c3], poolOf H]) (by repeat (first | exact trivial | refine ⟨rfl, ?_⟩)) (fun _ s => Sat.sub (by repeat (first | exact SubR.nil | apply SubR.cons 0 rfl | apply SubR.cons 1 rfl | apply SubR.cons 2 rfl | apply SubR.cons 3 rfl | apply SubR.cons 4 rfl | apply SubR.cons 5 rfl | apply SubR.cons 6 rfl | apply SubR.cons 7 rfl | apply SubR.cons 8 rfl | apply SubR.cons 9 rfl | apply SubR.cons 10 rfl | apply SubR.cons 11 rfl | apply SubR.cons 12 rfl | apply SubR.cons 13 rfl | apply SubR.cons 14 rfl | apply SubR.cons 15 rfl)) s) (G.loopN (X := Nat × Hp × List (Op1 × Value)) (fun (i, _, _) => p.ops.length - i) (fun (i, _, _) => [(1, .pointer (some ⟨bl, 0, none⟩)), (2, .pointer (some ⟨ba, 0, none⟩)), (3, .slice q3 p.ops.length d3), (4, .int .i64 (i : Int))]) (fun (_, H', ys) => [row (.slice q3 p.ops.length d3) 59 69 p.ops.length (ys.flatMap opC), row (.slice q1 p.deps.length d1) 37 32 p.deps.length (hs p.deps), blk ba 25 (0, 0) [str [], .int .i64 0, str [], .slice none 0 0, .slice none 0 0], blk bl 25 (0, 0) [str p.author, .int .i64 p.time, str p.note, .slice q1 p.deps.length d1, .slice p3 p.ops.length c3], poolOf H'])
    (fun (i, H', ys) => i ≤ p.ops.length ∧ le H H' ∧ ys.map (·.1) = p.ops ∧ ∀ y ∈ ys, rs H' y.2 y.1.lines.length 1 (strs y.1.lines)) (fun x hx k hk => ?_) (0, H, xs) ⟨Nat.zero_le _, le.refl _, hxs, hl1⟩)
  obtain ⟨i, H', ys⟩ := x
  obtain ⟨hi, le1, hys, hl2⟩ := hx
  dsimp only at hk
  have hyl : ys.length = p.ops.length := by rw [← hys]; simp
  have hy69 : ∀ x ∈ ys, (opC x).length = 69 := fun x h => opC_len (ho.op _ (by rw [← hys]; exact List.mem_map_of_mem h))
  have hflen : (ys.flatMap opC).length = ys.length * 69 := by
    have key : ∀ l : List (Op1 × Value), (∀ x ∈ l, (opC x).length = 69) → (l.flatMap opC).length = l.length * 69 := by
      intro l
      induction l with
      | nil => intro _; simp
      | cons a l ih =>
        intro h
        have h1 := h a (by simp)
        have h2 := ih fun x hx => h x (by simp [hx])
        rw [List.flatMap_cons, List.length_append, List.length_cons]; omega
    exact key ys hy69
  (repeat (first | refine GK.ro ?_ | (refine GK.box ?_; intro bl) | (refine GK.mkMap ?_; intro bm) | (refine GK.build0 tb ?_; intro bs)))
  (first | refine G.condP rfl (fun hb => ?_) (fun hb => ?_) | refine G.condN rfl (fun hb => ?_) (fun hb => ?_) | refine G.cond rfl (fun hb => ?_) (fun hb => ?_))
  · obtain ⟨⟨o, v⟩, hyi⟩ : ∃ y, ys[i]? = some y := ⟨_, List.getElem?_eq_getElem (by omega)⟩
    have hym := List.mem_of_getElem? hyi
    have hok : o.Ok := ho.op _ (by rw [← hys]; exact List.mem_map_of_mem (f := (·.1)) hym)
    have hlv0 := hl2 _ hym
    obtain ⟨lp, lc, hlv, hlc, hll, hlr⟩ := rs.out hlv0
    replace hlv : v = .slice lp o.lines.length lc := hlv
    subst hlv
    replace hlv0 : rs H' (.slice lp o.lines.length lc) o.lines.length 1 (strs o.lines) := hlv0
    replace hll : (strs o.lines).length = o.lines.length * 1 := hll
    have hols := hok.lines
    have hld : (ys.flatMap opC)[0 + (i : Int).toNat * 69 + 68]? = some (.slice lp o.lines.length lc) := by
      have := ops_at hy69 hyi 68 _ (opC_lines (x := (o, .slice lp o.lines.length lc)) hok)
      simpa using this
    (repeat (first | refine GK.ro ?_ | (refine GK.box ?_; intro bl) | (refine GK.mkMap ?_; intro bm) | (refine GK.build0 tb ?_; intro bs)))
    refine GK.rowPtr 1 rfl (by omega) fun bb hq => ?_
    subst hq
    (repeat (first | refine GK.ro ?_ | (refine GK.box ?_; intro bl) | (refine GK.mkMap ?_; intro bm) | (refine GK.build0 tb ?_; intro bs)))
    refine GL.cons ?_
    refine Gt.append0 tb 0 (by first | exact Wt.none | exact Wt.some rfl rfl (by first | exact rfl | decide +kernel)) rfl (.inl ⟨_, rfl⟩) rfl rfl rfl rfl rfl (RS.src (RS.pool 5 rfl hlv0) (strs_cell _) hll ⟨_, _, rfl⟩) (by omega) (by omega) ?_
    intro p2 c2
    (repeat (first | refine GK.ro ?_ | (refine GK.box ?_; intro bl) | (refine GK.mkMap ?_; intro bm) | (refine GK.build0 tb ?_; intro bs)))
    refine GL.cons ?_
    refine Gt.storeW tb 1 (by first | exact Wt.none | exact Wt.some rfl rfl (by first | exact rfl | decide +kernel)) rfl rfl rfl rfl rfl (by omega) ?_
    (repeat (first | refine GK.ro ?_ | (refine GK.box ?_; intro bl) | (refine GK.mkMap ?_; intro bm) | (refine GK.build0 tb ?_; intro bs)))
    refine GK.heap (Γ' := [poolOf H', row (.slice p2 o.lines.length c2) 9 1 o.lines.length (strs o.lines), row (.slice (some ⟨bb, 0, none⟩) p.ops.length d3) 59 69 p.ops.length ((ys.set i (o, .slice p2 o.lines.length c2)).flatMap opC), row (.slice q1 p.deps.length d1) 37 32 p.deps.length (hs p.deps), blk ba 25 (0, 0) [str [], .int .i64 0, str [], .slice none 0 0, .slice none 0 0], blk bl 25 (0, 0) [str p.author, .int .i64 p.time, str p.note, .slice q1 p.deps.length d1, .slice p3 p.ops.length c3]]) (fun w s => by rw [← flatMap_set hy69 hyi hok, show i * 69 + 68 = 0 + (i : Int).toNat * 69 + 68 by omega]; exact Sat.sub (by repeat (first | exact SubR.nil | apply SubR.cons 0 rfl | apply SubR.cons 1 rfl | apply SubR.cons 2 rfl | apply SubR.cons 3 rfl | apply SubR.cons 4 rfl | apply SubR.cons 5 rfl | apply SubR.cons 6 rfl | apply SubR.cons 7 rfl | apply SubR.cons 8 rfl | apply SubR.cons 9 rfl | apply SubR.cons 10 rfl | apply SubR.cons 11 rfl | apply SubR.cons 12 rfl | apply SubR.cons 13 rfl | apply SubR.cons 14 rfl | apply SubR.cons 15 rfl)) s) ?_
    refine GK.absorb fun H2 k2 le2 x2 y2 => ?_
    have hnew := row_in x2 y2
    refine GQ.againN (i + 1, H2, ys.set i (o, .slice p2 o.lines.length c2)) ?_ ?_ ?_ ?_
    · refine ⟨by omega, le1.trans le2, ?_, fun y hy => ?_⟩
      · rw [List.map_set, hys]
        have : p.ops[i]? = some o := by rw [← hys, List.getElem?_map, hyi]; rfl
        refine List.ext_getElem? fun j => ?_
        by_cases q : i = j
        · subst q; rw [List.getElem?_set_self (by omega), this]
        · rw [List.getElem?_set_ne q]
      · rcases List.mem_or_eq_of_mem_set hy with h | h
        · exact (hl2 y h).mono le2
        · subst h; exact hnew
    · dsimp only; omega
    · exact (by repeat (first | exact trivial | refine ⟨rfl, ?_⟩))
    · exact (fun _ s => Sat.sub (by repeat (first | exact SubR.nil | apply SubR.cons 0 rfl | apply SubR.cons 1 rfl | apply SubR.cons 2 rfl | apply SubR.cons 3 rfl | apply SubR.cons 4 rfl | apply SubR.cons 5 rfl | apply SubR.cons 6 rfl | apply SubR.cons 7 rfl | apply SubR.cons 8 rfl | apply SubR.cons 9 rfl | apply SubR.cons 10 rfl | apply SubR.cons 11 rfl | apply SubR.cons 12 rfl | apply SubR.cons 13 rfl | apply SubR.cons 14 rfl | apply SubR.cons 15 rfl)) s)
  · (repeat (first | refine GK.ro ?_ | (refine GK.box ?_; intro bl) | (refine GK.mkMap ?_; intro bm) | (refine GK.build0 tb ?_; intro bs)))
    refine GL.cons ?_
    refine Gt.storeAny tb 2 (by first | exact Wt.none | exact Wt.some rfl rfl (by first | exact rfl | decide +kernel)) rfl rfl rfl rfl (cons_one rfl (cons_one rfl (cons_one rfl (cons_one rfl (cons_one rfl (by simp)))))) rfl rfl ?_
    (repeat (first | refine GK.ro ?_ | (refine GK.box ?_; intro bl) | (refine GK.mkMap ?_; intro bm) | (refine GK.build0 tb ?_; intro bs)))
    refine GK.heap (Γ' := [poolOf H', row (.slice q3 p.ops.length d3) 59 69 p.ops.length (ys.flatMap opC), row (.slice q1 p.deps.length d1) 37 32 p.deps.length (hs p.deps), blk ba 25 (0, 0) [str p.author, .int .i64 p.time, str p.note, .slice q1 p.deps.length d1, .slice q3 p.ops.length d3]]) (fun _ s => Sat.sub (by repeat (first | exact SubR.nil | apply SubR.cons 0 rfl | apply SubR.cons 1 rfl | apply SubR.cons 2 rfl | apply SubR.cons 3 rfl | apply SubR.cons 4 rfl | apply SubR.cons 5 rfl | apply SubR.cons 6 rfl | apply SubR.cons 7 rfl | apply SubR.cons 8 rfl | apply SubR.cons 9 rfl | apply SubR.cons 10 rfl | apply SubR.cons 11 rfl | apply SubR.cons 12 rfl | apply SubR.cons 13 rfl | apply SubR.cons 14 rfl | apply SubR.cons 15 rfl)) s) ?_
    refine GK.absorb fun H2 k2 le2 x2 y2 => ?_
    refine GK.absorb fun H3 k3 le3 x3 y3 => ?_
    have hnew := row_in x2 y2
    have hnew3 := row_in x3 y3
    refine GQ.fin1 (Γ' := [poolOf H3]) rfl (Rv.row rfl rfl rfl (Rd.blk 1 rfl) (At.all _)) (fun _ s => Sat.sub (by repeat (first | exact SubR.nil | apply SubR.cons 0 rfl | apply SubR.cons 1 rfl | apply SubR.cons 2 rfl | apply SubR.cons 3 rfl | apply SubR.cons 4 rfl | apply SubR.cons 5 rfl | apply SubR.cons 6 rfl | apply SubR.cons 7 rfl | apply SubR.cons 8 rfl | apply SubR.cons 9 rfl | apply SubR.cons 10 rfl | apply SubR.cons 11 rfl | apply SubR.cons 12 rfl | apply SubR.cons 13 rfl | apply SubR.cons 14 rfl | apply SubR.cons 15 rfl)) s) ⟨H3, .slice q1 p.deps.length d1, .slice q3 p.ops.length d3, le1.trans (le2.trans le3), rfl, rfl, hnew3, ys, hys, hnew.mono le3, fun y hy => (hl2 y hy).mono (le2.trans le3)⟩
end Go.Pb
