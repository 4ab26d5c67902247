/- ReviewVotes. -/
import Derived.Test.YtjphghadogedkaaRwD
import Derived.Test.YtjphghadogedkaaRwE
set_option linter.unusedSimpArgs false
set_option linter.unusedVariables false
namespace Go.Re
open Go Go.Sl
set_option maxRecDepth 100000
def zh : By := List.replicate 32 0
def shV (author : By) (P : Pv) : Sh := ⟨⟨1, author, main, zh, true⟩, [], votesOf P⟩
theorem bools_get {l : List Bool} {i : Nat} {k : Bool} (h : l[i]? = some k) : (bools l)[i]? = some (.bool k) := by unfold bools; simp [h]
theorem bools_len (l : List Bool) : (bools l).length = l.length := by unfold bools; simp
theorem bools_append (a b : List Bool) : bools (a ++ b) = bools a ++ bools b := by unfold bools; simp
theorem bools_one (k : Bool) : bools [k] = [.bool k] := rfl
theorem bools_nil : bools [] = [] := rfl
theorem bools_set (l : List Bool) (i : Nat) (k : Bool) : bools (l.set i k) = (bools l).set i (.bool k) := by unfold bools; rw [List.map_set]
theorem bools_cell (l : List Bool) : ∀ u ∈ bools l, u.oneCell' = true := by
  unfold bools; intro u hu; obtain ⟨k, _, rfl⟩ := List.mem_map.1 hu; rfl
theorem shV_pr {a : By} {P : Pv} : (shV a P).pr = ⟨1, a, main, zh, true⟩ := rfl
theorem shV_votes {a : By} {P : Pv} : (shV a P).votes = votesOf P := rfl
theorem shV_talk {a : By} {P : Pv} : (shV a P).talk = [] := rfl
theorem atS1 {a : By} {P : Pv} : atS [shV a P] 1 = some (shV a P) := rfl
theorem votesOf_len (P : Pv) : (votesOf P).length = P.length := by unfold votesOf; simp
theorem side_len (w : Bool) (P : Pv) : (side w P).length ≤ P.length := by unfold side; simp [List.length_filter_le]
theorem who_get {P : Pv} {j : Nat} {u : By} {b : Bool} (h : P[j]? = some (u, b)) : (whoOf P)[j]? = some u ∧ (howOf P)[j]? = some b := by unfold whoOf howOf; simp [h]
theorem who_snoc (P : Pv) (u : By) (b : Bool) : strs (whoOf (P ++ [(u, b)])) = strs (whoOf P) ++ [str u] := by unfold whoOf strs; simp
theorem how_snoc (P : Pv) (u : By) (b : Bool) : bools (howOf (P ++ [(u, b)])) = bools (howOf P) ++ [.bool b] := by unfold howOf bools; simp
theorem who_cut (P : Pv) (k : Nat) : strs (whoOf (P.eraseIdx k)) = (strs (whoOf P)).take (k * 1) ++ (strs (whoOf P)).drop ((k + 1) * 1) := by
  rw [whoOf_erase, List.eraseIdx_eq_take_drop_succ, strs_append, strs_take, strs_drop, Nat.mul_one, Nat.mul_one]
theorem how_cut (P : Pv) (k : Nat) : bools (howOf (P.eraseIdx k)) = (bools (howOf P)).take (k * 1) ++ (bools (howOf P)).drop ((k + 1) * 1) := by
  rw [howOf_erase, List.eraseIdx_eq_take_drop_succ, bools_append, Nat.mul_one, Nat.mul_one]
  unfold bools; rw [List.map_take, List.map_drop]
theorem rises0 {w : Bool} {P : Pv} : rises (side w (P.take 0)) = [] := rfl
theorem RSzero {Γ : List HProp} {hF : Hp} {p : Option Addr} {c sz : Nat} : RS Γ hF (.slice p 0 c) 0 sz [] := fun _ _ => rs.zero
theorem who_nil : whoOf [] = [] := rfl
theorem how_nil : howOf [] = [] := rfl
theorem prop0 {author : By} : proposeM [] author main zh = (1, 0, [shV author []]) := rfl
theorem vote_own {author : By} {P : Pv} {b : Bool} : (onM [shV author P] 1 fun s => giveM s author (yn b)) = (200, [shV author P]) := by
  have : giveM (shV author P) author (yn b) = (200, shV author P) := by
    unfold giveM shV
    rw [if_neg (show ¬ (true = false) by decide), if_neg (yn_ne b), if_pos rfl]
  show ((giveM (shV author P) author (yn b)).1, [(giveM (shV author P) author (yn b)).2]) = _
  rw [this]
theorem vote_new {author u : By} {P : Pv} {b : Bool} (h : u ≠ author) : (onM [shV author P] 1 fun s => giveM s u (yn b)) = (0, [shV author (pset P u b)]) := by
  have : giveM (shV author P) u (yn b) = (0, shV author (pset P u b)) := by
    unfold giveM shV
    rw [if_neg (show ¬ (true = false) by decide), if_neg (yn_ne b), if_neg (fun e => h e.symm)]
    dsimp only
    rw [votes_pset]
  show ((giveM (shV author P) u (yn b)).1, [(giveM (shV author P) u (yn b)).2]) = _
  rw [this]
theorem unv_no {author u : By} {P : Pv} (h : u ∉ whoOf P) : (onM [shV author P] 1 fun s => giveM s u 0) = (111, [shV author P]) := by
  have : giveM (shV author P) u 0 = (111, shV author P) := by
    unfold giveM shV
    rw [if_neg (show ¬ (true = false) by decide), if_pos rfl, if_pos ((vget_votes P u).2 h)]
  show ((giveM (shV author P) u 0).1, [(giveM (shV author P) u 0).2]) = _
  rw [this]
theorem unv_yes {author u : By} {P : Pv} (h : u ∈ whoOf P) : (onM [shV author P] 1 fun s => giveM s u 0) = (0, [shV author (pdel P u)]) := by
  have : giveM (shV author P) u 0 = (0, shV author (pdel P u)) := by
    unfold giveM shV
    rw [if_neg (show ¬ (true = false) by decide), if_pos rfl, if_neg (fun e => (vget_votes P u).1 e h)]
    dsimp only
    rw [votes_pdel]
  show ((giveM (shV author P) u 0).1, [(giveM (shV author P) u 0).2]) = _
  rw [this]
set_option maxRecDepth 100000
set_option maxHeartbeats 4000000
attribute [local irreducible] GK GO Yl Wt Ef Hd GH KH wpListIn Code.wpIn toBody roundQ poolOf rs RS YieldOk IterOk VOk row star exs mp lp Sat pt FnOk Rd bodyPost bodyPostM Lv Ret Exit.then Exit.inBlock Exit.noGoto Int.decLt Int.decLe Int.instDecidableEq
attribute [local irreducible] u8s strs likeTo propC encV prs ptrs sheetC sheets zeroC actC acts i64s bools whoOf howOf votesOf shV rises side
set_option pp.deepTerms true
set_option pp.maxSteps 1000000
variable {hF H : Hp}
theorem votesLaw_ok {l : List Act1} {v : Value} {author : By} (h : rs H v l.length 37 (acts l)) (hk : ∀ x ∈ l, x.Ok) (n1 : l.length ≤ 140737488355328) (hau : author.length ≤ 140737488355328) :
    FnOk Go.Proofs.Try.prog 5 [v, str author] [poolOf H] hF (fun v Γ => v = .bool true ∧ ∃ H' Γ2, le H H' ∧ Γ = poolOf H' :: Γ2) := by
  have h0 := h
  obtain ⟨p, c, rfl, hc, hln, hr⟩ := rs.out h
  refine FnOk.intro 180 Go.Proofs.Try.func5 rfl rfl fun w0 => ?_
  (repeat (first | refine GK.ro ?_ | (refine GK.box ?_; intro bl) | (refine GK.mkMap ?_; intro bm) | (refine GK.build0 tb ?_; intro bs)))
  refine GL.cons ?_; refine GO.callA (fun hF' hle hH => few_ok h0 hk n1) (by first | exact Wt.none | exact Wt.some rfl rfl (by first | exact rfl | decide +kernel)) (by kernel_rfl) rfl rfl (by repeat (first | exact SubR.nil | apply SubR.cons 0 rfl | apply SubR.cons 1 rfl | apply SubR.cons 2 rfl | apply SubR.cons 3 rfl | apply SubR.cons 4 rfl | apply SubR.cons 5 rfl | apply SubR.cons 6 rfl | apply SubR.cons 7 rfl | apply SubR.cons 8 rfl | apply SubR.cons 9 rfl | apply SubR.cons 10 rfl | apply SubR.cons 11 rfl | apply SubR.cons 12 rfl | apply SubR.cons 13 rfl | apply SubR.cons 14 rfl | apply SubR.cons 15 rfl)) ?_
  rintro v Γ' ⟨⟨bb, rfl, hfew⟩, rfl⟩
  cases bb with
  | false =>
    (repeat (first | refine GK.ro ?_ | (refine GK.box ?_; intro bl) | (refine GK.mkMap ?_; intro bm) | (refine GK.build0 tb ?_; intro bs)))
    refine GL.cons ?_; refine GO.callA (fun hF' hle hH => lives_ok) (by first | exact Wt.none | exact Wt.some rfl rfl (by first | exact rfl | decide +kernel)) (by kernel_rfl) rfl rfl (by repeat (first | exact SubR.nil | apply SubR.cons 0 rfl | apply SubR.cons 1 rfl | apply SubR.cons 2 rfl | apply SubR.cons 3 rfl | apply SubR.cons 4 rfl | apply SubR.cons 5 rfl | apply SubR.cons 6 rfl | apply SubR.cons 7 rfl | apply SubR.cons 8 rfl | apply SubR.cons 9 rfl | apply SubR.cons 10 rfl | apply SubR.cons 11 rfl | apply SubR.cons 12 rfl | apply SubR.cons 13 rfl | apply SubR.cons 14 rfl | apply SubR.cons 15 rfl)) ?_
    rintro v Γ' ⟨rfl, rfl⟩
    (repeat (first | refine GK.ro ?_ | (refine GK.box ?_; intro bl) | (refine GK.mkMap ?_; intro bm) | (refine GK.build0 tb ?_; intro bs)))
    exact GQ.fin1 rfl (Rv.tmp rfl) (fun _ s => Sat.sub (by repeat (first | exact SubR.nil | apply SubR.cons 0 rfl | apply SubR.cons 1 rfl | apply SubR.cons 2 rfl | apply SubR.cons 3 rfl | apply SubR.cons 4 rfl | apply SubR.cons 5 rfl | apply SubR.cons 6 rfl | apply SubR.cons 7 rfl | apply SubR.cons 8 rfl | apply SubR.cons 9 rfl | apply SubR.cons 10 rfl | apply SubR.cons 11 rfl | apply SubR.cons 12 rfl | apply SubR.cons 13 rfl | apply SubR.cons 14 rfl | apply SubR.cons 15 rfl)) s) ⟨rfl, H, [], le.refl _, rfl⟩
  | true =>
  have hl150 := hfew rfl
  (repeat (first | refine GK.ro ?_ | (refine GK.box ?_; intro bl) | (refine GK.mkMap ?_; intro bm) | (refine GK.build0 tb ?_; intro bs)))
  (first | refine G.condP rfl (fun hb => ?_) (fun hb => ?_) | refine G.condN rfl (fun hb => ?_) (fun hb => ?_) | refine G.cond rfl (fun hb => ?_) (fun hb => ?_))
  · (repeat (first | refine GK.ro ?_ | (refine GK.box ?_; intro bl) | (refine GK.mkMap ?_; intro bm) | (refine GK.build0 tb ?_; intro bs)))
    refine GL.cons ?_; refine GO.callA (fun hF' hle hH => lives_ok) (by first | exact Wt.none | exact Wt.some rfl rfl (by first | exact rfl | decide +kernel)) (by kernel_rfl) rfl rfl (by repeat (first | exact SubR.nil | apply SubR.cons 0 rfl | apply SubR.cons 1 rfl | apply SubR.cons 2 rfl | apply SubR.cons 3 rfl | apply SubR.cons 4 rfl | apply SubR.cons 5 rfl | apply SubR.cons 6 rfl | apply SubR.cons 7 rfl | apply SubR.cons 8 rfl | apply SubR.cons 9 rfl | apply SubR.cons 10 rfl | apply SubR.cons 11 rfl | apply SubR.cons 12 rfl | apply SubR.cons 13 rfl | apply SubR.cons 14 rfl | apply SubR.cons 15 rfl)) ?_
    rintro v Γ' ⟨rfl, rfl⟩
    (repeat (first | refine GK.ro ?_ | (refine GK.box ?_; intro bl) | (refine GK.mkMap ?_; intro bm) | (refine GK.build0 tb ?_; intro bs)))
    exact GQ.fin1 rfl (Rv.tmp rfl) (fun _ s => Sat.sub (by repeat (first | exact SubR.nil | apply SubR.cons 0 rfl | apply SubR.cons 1 rfl | apply SubR.cons 2 rfl | apply SubR.cons 3 rfl | apply SubR.cons 4 rfl | apply SubR.cons 5 rfl | apply SubR.cons 6 rfl | apply SubR.cons 7 rfl | apply SubR.cons 8 rfl | apply SubR.cons 9 rfl | apply SubR.cons 10 rfl | apply SubR.cons 11 rfl | apply SubR.cons 12 rfl | apply SubR.cons 13 rfl | apply SubR.cons 14 rfl | apply SubR.cons 15 rfl)) s) ⟨rfl, H, [], le.refl _, rfl⟩
  (repeat (first | refine GK.ro ?_ | (refine GK.box ?_; intro bl) | (refine GK.mkMap ?_; intro bm) | (refine GK.build0 tb ?_; intro bs)))
  refine GL.cons ?_; refine GO.callA (fun hF' hle hH => new_ok) (by first | exact Wt.none | exact Wt.some rfl rfl (by first | exact rfl | decide +kernel)) (by kernel_rfl) rfl rfl (by repeat (first | exact SubR.nil | apply SubR.cons 0 rfl | apply SubR.cons 1 rfl | apply SubR.cons 2 rfl | apply SubR.cons 3 rfl | apply SubR.cons 4 rfl | apply SubR.cons 5 rfl | apply SubR.cons 6 rfl | apply SubR.cons 7 rfl | apply SubR.cons 8 rfl | apply SubR.cons 9 rfl | apply SubR.cons 10 rfl | apply SubR.cons 11 rfl | apply SubR.cons 12 rfl | apply SubR.cons 13 rfl | apply SubR.cons 14 rfl | apply SubR.cons 15 rfl)) ?_
  rintro v Γ' ⟨b, rfl, rfl⟩
  (repeat (first | refine GK.ro ?_ | (refine GK.box ?_; intro bl) | (refine GK.mkMap ?_; intro bm) | (refine GK.build0 tb ?_; intro bs)))
  refine GL.cons ?_; refine GO.yield (by first | exact Wt.none | exact Wt.some rfl rfl (by first | exact rfl | decide +kernel)) (Yl.buildArr (sz := 1) (parts := []) (vs := []) (zl := u8s zh) (l := u8s zh) rfl (by kernel_rfl) (by kernel_rfl) rfl (by kernel_rfl)) ?_
  (repeat (first | refine GK.ro ?_ | (refine GK.box ?_; intro bl) | (refine GK.mkMap ?_; intro bm) | (refine GK.build0 tb ?_; intro bs)))
  refine GL.cons ?_; refine GO.callA (fun hF' hle hH => propose_ok (L := []) (a := author) (c := main) (h := zh) rfl (Nat.zero_le _)) (by first | exact Wt.none | exact Wt.some rfl rfl (by first | exact rfl | decide +kernel)) (by kernel_rfl) rfl rfl (by repeat (first | exact SubR.nil | apply SubR.cons 0 rfl | apply SubR.cons 1 rfl | apply SubR.cons 2 rfl | apply SubR.cons 3 rfl | apply SubR.cons 4 rfl | apply SubR.cons 5 rfl | apply SubR.cons 6 rfl | apply SubR.cons 7 rfl | apply SubR.cons 8 rfl | apply SubR.cons 9 rfl | apply SubR.cons 10 rfl | apply SubR.cons 11 rfl | apply SubR.cons 12 rfl | apply SubR.cons 13 rfl | apply SubR.cons 14 rfl | apply SubR.cons 15 rfl)) ?_
  rw [prop0]
  show ∀ v Γ', (v = Value.tuple #[.int .i64 1, .int .i64 0] ∧ Γ' = [board b [shV author []]]) → _
  rintro v Γ' ⟨rfl, rfl⟩
  (repeat (first | refine GK.ro ?_ | (refine GK.box ?_; intro bl) | (refine GK.mkMap ?_; intro bm) | (refine GK.build0 tb ?_; intro bs)))
  refine GK.weak (fr' := [(1, str author), (5, .pointer (some ⟨b, 0, none⟩)), (44, .slice p l.length c), (45, .int .i64 (l.length : Int)), (8, .slice none 0 0), (9, .slice none 0 0), (46, .int .i64 ((0 : Nat) : Int))]) (Γ' := [board b [shV author []], row (.slice none 0 0) 9 1 0 (strs (whoOf [])), row (.slice none 0 0) 4 1 0 (bools (howOf [])), poolOf H]) (by repeat (first | exact trivial | refine ⟨rfl, ?_⟩))
    (fun w s => by rw [who_nil, how_nil, bools_nil, strs_nil]; exact Sl.Sat.sub (by repeat (first | exact SubR.nil | apply SubR.cons 0 rfl | apply SubR.cons 1 rfl | apply SubR.cons 2 rfl | apply SubR.cons 3 rfl | apply SubR.cons 4 rfl | apply SubR.cons 5 rfl | apply SubR.cons 6 rfl | apply SubR.cons 7 rfl | apply SubR.cons 8 rfl | apply SubR.cons 9 rfl | apply SubR.cons 10 rfl | apply SubR.cons 11 rfl | apply SubR.cons 12 rfl | apply SubR.cons 13 rfl | apply SubR.cons 14 rfl | apply SubR.cons 15 rfl)) (Sl.Sat.row_nil (e := 9) (sz := 1) (Sl.Sat.row_nil (e := 4) (sz := 1) s)))
    (G.loopN (X := Nat × Pv × Hp × (Option Addr × Nat) × (Option Addr × Nat)) (fun (i, _, _, _, _) => l.length - i)
    (fun (i, P, _, (q, d), (q2, d2)) => [(1, str author), (5, .pointer (some ⟨b, 0, none⟩)), (44, .slice p l.length c), (45, .int .i64 (l.length : Int)), (8, .slice q P.length d), (9, .slice q2 P.length d2), (46, .int .i64 (i : Int))])
    (fun (_, P, H', (q, d), (q2, d2)) => [board b [shV author P], row (.slice q P.length d) 9 1 P.length (strs (whoOf P)), row (.slice q2 P.length d2) 4 1 P.length (bools (howOf P)), poolOf H'])
    (fun (i, P, H', _, _) => i ≤ l.length ∧ Sat1 P author i ∧ le H H') (fun x hx r hr' => ?_) (0, [], H, (none, 0), (none, 0)) ⟨Nat.zero_le _, Sat1.nil, le.refl _⟩)
  obtain ⟨i, P, H', ⟨q, d⟩, ⟨q2, d2⟩⟩ := x
  obtain ⟨hi, hS, le1⟩ := hx
  dsimp only at hr'
  have hPl := hS.len
  have hwl := whoOf_len P
  have hhl := howOf_len P
  (repeat (first | refine GK.ro ?_ | (refine GK.box ?_; intro bl) | (refine GK.mkMap ?_; intro bm) | (refine GK.build0 tb ?_; intro bs)))
  (first | refine G.condP rfl (fun hb => ?_) (fun hb => ?_) | refine G.condN rfl (fun hb => ?_) (fun hb => ?_) | refine G.cond rfl (fun hb => ?_) (fun hb => ?_))
  · obtain ⟨x, hx⟩ : ∃ x, l[i]? = some x := ⟨_, List.getElem?_eq_getElem (by omega)⟩
    have hxk := hk x (List.mem_of_getElem? hx)
    obtain ⟨k0, k1, k2, k3⟩ := actC_get x
    have k5 := actC_yes hxk.p
    have hal := actC_len hxk.p
    have hao := actC_one x
    have haA : At (actC x) 0 (actC x) := At.all _
    have hlt : i < l.length := by omega
    clear hb
    obtain ⟨b1, o1, cs1, et1, fz1, rfl, hb1, hat1⟩ := hr (by omega)
    have hA : At cs1 (o1 + (i : Int).toNat * 37) (actC x) := at_trans hat1 (acts_at hk hx)
    have hb1' := le1 _ _ hb1
    (repeat (first | refine GK.ro ?_ | (refine GK.box ?_; intro bl) | (refine GK.mkMap ?_; intro bm) | (refine GK.build0 tb ?_; intro bs) | (refine GL.cons ?_; refine GO.alloc (by first | exact Wt.none | exact Wt.some rfl rfl (by first | exact rfl | decide +kernel)) (by exact rfl) ?_; intro ba) | (refine GL.cons ?_; refine Gt.storeAny tb 0 (by first | exact Wt.none | exact Wt.some rfl rfl (by first | exact rfl | decide +kernel)) (by exact rfl) (by exact rfl) (by exact rfl) (by assumption) (by assumption) (by exact rfl) (by first | exact rfl | assumption) ?_) | (refine GL.cons ?_; refine Gt.storeAny tb 1 (by first | exact Wt.none | exact Wt.some rfl rfl (by first | exact rfl | decide +kernel)) (by exact rfl) (by exact rfl) (by exact rfl) (by assumption) (by assumption) (by exact rfl) (by first | exact rfl | assumption) ?_) | (refine GL.cons ?_; refine Gt.storeAny tb 2 (by first | exact Wt.none | exact Wt.some rfl rfl (by first | exact rfl | decide +kernel)) (by exact rfl) (by exact rfl) (by exact rfl) (by assumption) (by assumption) (by exact rfl) (by first | exact rfl | assumption) ?_) | (refine GL.cons ?_; refine Gt.storeAny tb 3 (by first | exact Wt.none | exact Wt.some rfl rfl (by first | exact rfl | decide +kernel)) (by exact rfl) (by exact rfl) (by exact rfl) (by assumption) (by assumption) (by exact rfl) (by first | exact rfl | assumption) ?_) | (refine GL.cons ?_; refine Gt.storeAny tb 4 (by first | exact Wt.none | exact Wt.some rfl rfl (by first | exact rfl | decide +kernel)) (by exact rfl) (by exact rfl) (by exact rfl) (by assumption) (by assumption) (by exact rfl) (by first | exact rfl | assumption) ?_) | (refine GL.cons ?_; refine Gt.storeAny tb 5 (by first | exact Wt.none | exact Wt.some rfl rfl (by first | exact rfl | decide +kernel)) (by exact rfl) (by exact rfl) (by exact rfl) (by assumption) (by assumption) (by exact rfl) (by first | exact rfl | assumption) ?_) | (refine GL.cons ?_; refine Gt.storeAny tb 6 (by first | exact Wt.none | exact Wt.some rfl rfl (by first | exact rfl | decide +kernel)) (by exact rfl) (by exact rfl) (by exact rfl) (by assumption) (by assumption) (by exact rfl) (by first | exact rfl | assumption) ?_) | (refine GL.cons ?_; refine Gt.storeAny tb 7 (by first | exact Wt.none | exact Wt.some rfl rfl (by first | exact rfl | decide +kernel)) (by exact rfl) (by exact rfl) (by exact rfl) (by assumption) (by assumption) (by exact rfl) (by first | exact rfl | assumption) ?_) | (refine GL.cons ?_; refine Gt.storeAny tb 8 (by first | exact Wt.none | exact Wt.some rfl rfl (by first | exact rfl | decide +kernel)) (by exact rfl) (by exact rfl) (by exact rfl) (by assumption) (by assumption) (by exact rfl) (by first | exact rfl | assumption) ?_) | (refine GL.cons ?_; refine Gt.storeAny tb 9 (by first | exact Wt.none | exact Wt.some rfl rfl (by first | exact rfl | decide +kernel)) (by exact rfl) (by exact rfl) (by exact rfl) (by assumption) (by assumption) (by exact rfl) (by first | exact rfl | assumption) ?_)))
    -- where the user stands
    refine G.cutB (X := Int) (fun at_ => [(1, str author), (5, .pointer (some ⟨b, 0, none⟩)), (44, .slice (some ⟨b1, o1, none⟩) l.length c), (45, .int .i64 (l.length : Int)), (8, .slice q P.length d), (9, .slice q2 P.length d2), (46, .int .i64 (i : Int)), (11, .pointer (some ⟨ba, 0, none⟩)), (12, .int .i64 at_)])
      (fun _ => [board b [shV author P], row (.slice q P.length d) 9 1 P.length (strs (whoOf P)), row (.slice q2 P.length d2) 4 1 P.length (bools (howOf P)), blk ba 44 (0, 0) (actC x), poolOf H'])
      (fun at_ => (at_ = -1 ∧ x.user ∉ whoOf P) ∨ ∃ k : Nat, at_ = k ∧ (whoOf P)[k]? = some x.user) (fun at_ hat_ => ?_) ?_
    rotate_left
    · refine GK.weak (fr' := [(1, str author), (5, .pointer (some ⟨b, 0, none⟩)), (44, .slice (some ⟨b1, o1, none⟩) l.length c), (45, .int .i64 (l.length : Int)), (8, .slice q P.length d), (9, .slice q2 P.length d2), (46, .int .i64 (i : Int)), (11, .pointer (some ⟨ba, 0, none⟩)), (12, .int .i64 (-1)), (51, .int .i64 (P.length : Int)), (52, .int .i64 ((0 : Nat) : Int))]) (Γ' := [board b [shV author P], row (.slice q P.length d) 9 1 P.length (strs (whoOf P)), row (.slice q2 P.length d2) 4 1 P.length (bools (howOf P)), blk ba 44 (0, 0) (actC x), poolOf H']) (by repeat (first | exact trivial | refine ⟨rfl, ?_⟩)) (fun _ s => Sat.sub (by repeat (first | exact SubR.nil | apply SubR.cons 0 rfl | apply SubR.cons 1 rfl | apply SubR.cons 2 rfl | apply SubR.cons 3 rfl | apply SubR.cons 4 rfl | apply SubR.cons 5 rfl | apply SubR.cons 6 rfl | apply SubR.cons 7 rfl | apply SubR.cons 8 rfl | apply SubR.cons 9 rfl | apply SubR.cons 10 rfl | apply SubR.cons 11 rfl | apply SubR.cons 12 rfl | apply SubR.cons 13 rfl | apply SubR.cons 14 rfl | apply SubR.cons 15 rfl)) s)
        (G.loopN (X := Nat × Int) (fun (j, _) => P.length - j) (fun (j, at_) => [(1, str author), (5, .pointer (some ⟨b, 0, none⟩)), (44, .slice (some ⟨b1, o1, none⟩) l.length c), (45, .int .i64 (l.length : Int)), (8, .slice q P.length d), (9, .slice q2 P.length d2), (46, .int .i64 (i : Int)), (11, .pointer (some ⟨ba, 0, none⟩)), (12, .int .i64 at_), (51, .int .i64 (P.length : Int)), (52, .int .i64 (j : Int))]) (fun _ => [board b [shV author P], row (.slice q P.length d) 9 1 P.length (strs (whoOf P)), row (.slice q2 P.length d2) 4 1 P.length (bools (howOf P)), blk ba 44 (0, 0) (actC x), poolOf H'])
        (fun (j, at_) => j ≤ P.length ∧ ((at_ = -1 ∧ ∀ m < j, ∀ w, (whoOf P)[m]? = some w → w ≠ x.user) ∨ ∃ k : Nat, at_ = k ∧ (whoOf P)[k]? = some x.user)) (fun y hy' r2 hr2 => ?_) (0, -1) ⟨Nat.zero_le _, .inl ⟨rfl, fun m hm => by omega⟩⟩)
      obtain ⟨j, at_⟩ := y
      obtain ⟨hj, hat_⟩ := hy'
      dsimp only at hr2
      (repeat (first | refine GK.ro ?_ | (refine GK.box ?_; intro bl) | (refine GK.mkMap ?_; intro bm) | (refine GK.build0 tb ?_; intro bs)))
      (first | refine G.condP rfl (fun hb => ?_) (fun hb => ?_) | refine G.condN rfl (fun hb => ?_) (fun hb => ?_) | refine G.cond rfl (fun hb => ?_) (fun hb => ?_))
      · obtain ⟨w, hw⟩ : ∃ w, (whoOf P)[j]? = some w := ⟨_, List.getElem?_eq_getElem (by omega)⟩
        have hlt2 : j < P.length := by omega
        clear hb
        refine GK.rowPtr 1 rfl (by omega) fun b3 hp => ?_
        subst hp
        have kn : (strs (whoOf P))[0 + (j : Int).toNat * 1]? = some (str w) := by rw [show 0 + (j : Int).toNat * 1 = j by omega]; exact strs_get hw
        (repeat (first | refine GK.ro ?_ | (refine GK.box ?_; intro bl) | (refine GK.mkMap ?_; intro bm) | (refine GK.build0 tb ?_; intro bs)))
        refine G.draw [] [row (.slice (some ⟨b3, 0, none⟩) P.length d) 9 1 P.length (strs (whoOf P)), blk ba 44 (0, 0) (actC x)] (by kernel_rfl) ?_
        ((first | refine GH.to 0 ?_ | refine GH.tos 0 ?_); (first | refine GH.to 1 ?_ | refine GH.tos 1 ?_); (first | refine GH.to 2 ?_ | refine GH.tos 2 ?_); (first | refine GH.to 3 ?_ | refine GH.tos 3 ?_); (first | refine GH.to 4 ?_ | refine GH.tos 4 ?_); (first | refine GH.to 5 ?_ | refine GH.tos 5 ?_); (first | refine GH.to 6 ?_ | refine GH.tos 6 ?_))
        refine GH.fin (by kernel_rfl) ?_
        (repeat (first | refine GK.ro ?_ | (refine GK.box ?_; intro bl) | (refine GK.mkMap ?_; intro bm) | (refine GK.build0 tb ?_; intro bs)))
        (first | refine G.condP rfl (fun hb => ?_) (fun hb => ?_) | refine G.condN rfl (fun hb => ?_) (fun hb => ?_) | refine G.cond rfl (fun hb => ?_) (fun hb => ?_))
        · have hwu : w = x.user := by simpa using hb
          (repeat (first | refine GK.ro ?_ | (refine GK.box ?_; intro bl) | (refine GK.mkMap ?_; intro bm) | (refine GK.build0 tb ?_; intro bs)))
          (refine GQ.againN ((j + 1, (j : Int))) ?_ ?_ ?_ ?_; rotate_left; (first | omega | (dsimp only; omega)); exact (by repeat (first | exact trivial | refine ⟨rfl, ?_⟩)); exact (fun _ s => Sat.sub (by repeat (first | exact SubR.nil | apply SubR.cons 0 rfl | apply SubR.cons 1 rfl | apply SubR.cons 2 rfl | apply SubR.cons 3 rfl | apply SubR.cons 4 rfl | apply SubR.cons 5 rfl | apply SubR.cons 6 rfl | apply SubR.cons 7 rfl | apply SubR.cons 8 rfl | apply SubR.cons 9 rfl | apply SubR.cons 10 rfl | apply SubR.cons 11 rfl | apply SubR.cons 12 rfl | apply SubR.cons 13 rfl | apply SubR.cons 14 rfl | apply SubR.cons 15 rfl)) s))
          exact ⟨by omega, .inr ⟨j, rfl, by rw [hw, hwu]⟩⟩
        · have hwu : ¬ w = x.user := by simpa using hb
          (repeat (first | refine GK.ro ?_ | (refine GK.box ?_; intro bl) | (refine GK.mkMap ?_; intro bm) | (refine GK.build0 tb ?_; intro bs)))
          (refine GQ.againN ((j + 1, at_)) ?_ ?_ ?_ ?_; rotate_left; (first | omega | (dsimp only; omega)); exact (by repeat (first | exact trivial | refine ⟨rfl, ?_⟩)); exact (fun _ s => Sat.sub (by repeat (first | exact SubR.nil | apply SubR.cons 0 rfl | apply SubR.cons 1 rfl | apply SubR.cons 2 rfl | apply SubR.cons 3 rfl | apply SubR.cons 4 rfl | apply SubR.cons 5 rfl | apply SubR.cons 6 rfl | apply SubR.cons 7 rfl | apply SubR.cons 8 rfl | apply SubR.cons 9 rfl | apply SubR.cons 10 rfl | apply SubR.cons 11 rfl | apply SubR.cons 12 rfl | apply SubR.cons 13 rfl | apply SubR.cons 14 rfl | apply SubR.cons 15 rfl)) s))
          refine ⟨by omega, ?_⟩
          rcases hat_ with ⟨e1, e2⟩ | e
          · refine .inl ⟨e1, fun m hm y hy => ?_⟩
            rcases Nat.lt_or_ge m j with h | h
            · exact e2 m h y hy
            · obtain rfl : m = j := by omega
              rw [hw] at hy; cases hy; exact hwu
          · exact .inr e
      · (repeat (first | refine GK.ro ?_ | (refine GK.box ?_; intro bl) | (refine GK.mkMap ?_; intro bm) | (refine GK.build0 tb ?_; intro bs)))
        refine GQ.reach at_ ?_ (by repeat (first | exact trivial | refine ⟨rfl, ?_⟩)) (fun _ s => Sat.sub (by repeat (first | exact SubR.nil | apply SubR.cons 0 rfl | apply SubR.cons 1 rfl | apply SubR.cons 2 rfl | apply SubR.cons 3 rfl | apply SubR.cons 4 rfl | apply SubR.cons 5 rfl | apply SubR.cons 6 rfl | apply SubR.cons 7 rfl | apply SubR.cons 8 rfl | apply SubR.cons 9 rfl | apply SubR.cons 10 rfl | apply SubR.cons 11 rfl | apply SubR.cons 12 rfl | apply SubR.cons 13 rfl | apply SubR.cons 14 rfl | apply SubR.cons 15 rfl)) s)
        rcases hat_ with ⟨e1, e2⟩ | e
        · refine .inl ⟨e1, fun hm => ?_⟩
          obtain ⟨m, hm⟩ := List.getElem?_of_mem hm
          have := (List.getElem?_eq_some_iff.1 hm).1
          exact e2 m (by omega) _ hm rfl
        · exact .inr e
    (repeat (first | refine GK.ro ?_ | (refine GK.box ?_; intro bl) | (refine GK.mkMap ?_; intro bm) | (refine GK.build0 tb ?_; intro bs)))
    refine G.cutB (X := Pv × (Option Addr × Nat) × (Option Addr × Nat)) (fun y => [(1, str author), (5, .pointer (some ⟨b, 0, none⟩)), (44, .slice (some ⟨b1, o1, none⟩) l.length c), (45, .int .i64 (l.length : Int)), (46, .int .i64 (i : Int)), (8, .slice y.2.1.1 y.1.length y.2.1.2), (9, .slice y.2.2.1 y.1.length y.2.2.2)])
      (fun y => [board b [shV author y.1], row (.slice y.2.1.1 y.1.length y.2.1.2) 9 1 y.1.length (strs (whoOf y.1)), row (.slice y.2.2.1 y.1.length y.2.2.2) 4 1 y.1.length (bools (howOf y.1)), poolOf H'])
      (fun y => Sat1 y.1 author (i + 1)) (fun y hy => ?_) ?_
    rotate_left
    · (first | refine G.condP rfl (fun hb => ?_) (fun hb => ?_) | refine G.condN rfl (fun hb => ?_) (fun hb => ?_) | refine G.cond rfl (fun hb => ?_) (fun hb => ?_))
      · by_cases hua : x.user = author
        · have hub : (x.user == author) = true := by simp [hua]
          have h84 : (!(x.user == author)) = false := by simp [hua]
          have h80 : (!(decide ((200 : Int) = 0) == !(x.user == author))) = false := by simp [hub]
          have hm1 : at_ = -1 := by
            rcases hat_ with ⟨e, _⟩ | ⟨k, _, hk2⟩
            · exact e
            · exact absurd (hua ▸ List.mem_of_getElem? hk2) hS.na
          subst hm1
          (repeat (first | refine GK.ro ?_ | (refine GK.box ?_; intro bl) | (refine GK.mkMap ?_; intro bm) | (refine GK.build0 tb ?_; intro bs)))
          refine GL.cons ?_; refine GO.callA (fun hF' hle hH => vote_ok (L := [shV author P]) (id := 1) (u := x.user) (is := x.yes) (Nat.le_of_ble_eq_true rfl)) (by first | exact Wt.none | exact Wt.some rfl rfl (by first | exact rfl | decide +kernel)) (by kernel_rfl) rfl rfl (by repeat (first | exact SubR.nil | apply SubR.cons 0 rfl | apply SubR.cons 1 rfl | apply SubR.cons 2 rfl | apply SubR.cons 3 rfl | apply SubR.cons 4 rfl | apply SubR.cons 5 rfl | apply SubR.cons 6 rfl | apply SubR.cons 7 rfl | apply SubR.cons 8 rfl | apply SubR.cons 9 rfl | apply SubR.cons 10 rfl | apply SubR.cons 11 rfl | apply SubR.cons 12 rfl | apply SubR.cons 13 rfl | apply SubR.cons 14 rfl | apply SubR.cons 15 rfl)) ?_
          rw [show (onM [shV author P] 1 fun s => giveM s x.user (yn x.yes)) = (200, [shV author P]) from by rw [hua]; exact vote_own]
          show ∀ v Γ', (v = Value.int .i64 200 ∧ Γ' = [board b [shV author P]]) → _
          rintro v Γ' ⟨rfl, rfl⟩
          (repeat (first | refine GK.ro ?_ | (refine GK.box ?_; intro bl) | (refine GK.mkMap ?_; intro bm) | (refine GK.build0 tb ?_; intro bs)))
          exact GQ.reach (P, (q, d), (q2, d2)) hS.more (by repeat (first | exact trivial | refine ⟨rfl, ?_⟩)) (fun _ s => Sat.sub (by repeat (first | exact SubR.nil | apply SubR.cons 0 rfl | apply SubR.cons 1 rfl | apply SubR.cons 2 rfl | apply SubR.cons 3 rfl | apply SubR.cons 4 rfl | apply SubR.cons 5 rfl | apply SubR.cons 6 rfl | apply SubR.cons 7 rfl | apply SubR.cons 8 rfl | apply SubR.cons 9 rfl | apply SubR.cons 10 rfl | apply SubR.cons 11 rfl | apply SubR.cons 12 rfl | apply SubR.cons 13 rfl | apply SubR.cons 14 rfl | apply SubR.cons 15 rfl)) s)
        · have hub : (x.user == author) = false := by simp [hua]
          have h84 : (!(x.user == author)) = true := by simp [hua]
          have h80 : (!(decide ((0 : Int) = 0) == !(x.user == author))) = false := by simp [hub]
          (repeat (first | refine GK.ro ?_ | (refine GK.box ?_; intro bl) | (refine GK.mkMap ?_; intro bm) | (refine GK.build0 tb ?_; intro bs)))
          refine GL.cons ?_; refine GO.callA (fun hF' hle hH => vote_ok (L := [shV author P]) (id := 1) (u := x.user) (is := x.yes) (Nat.le_of_ble_eq_true rfl)) (by first | exact Wt.none | exact Wt.some rfl rfl (by first | exact rfl | decide +kernel)) (by kernel_rfl) rfl rfl (by repeat (first | exact SubR.nil | apply SubR.cons 0 rfl | apply SubR.cons 1 rfl | apply SubR.cons 2 rfl | apply SubR.cons 3 rfl | apply SubR.cons 4 rfl | apply SubR.cons 5 rfl | apply SubR.cons 6 rfl | apply SubR.cons 7 rfl | apply SubR.cons 8 rfl | apply SubR.cons 9 rfl | apply SubR.cons 10 rfl | apply SubR.cons 11 rfl | apply SubR.cons 12 rfl | apply SubR.cons 13 rfl | apply SubR.cons 14 rfl | apply SubR.cons 15 rfl)) ?_
          rw [show (onM [shV author P] 1 fun s => giveM s x.user (yn x.yes)) = (0, [shV author (pset P x.user x.yes)]) from vote_new hua]
          show ∀ v Γ', (v = Value.int .i64 0 ∧ Γ' = [board b [shV author (pset P x.user x.yes)]]) → _
          rintro v Γ' ⟨rfl, rfl⟩
          rcases hat_ with ⟨rfl, hno⟩ | ⟨k, rfl, hk2⟩
          · rw [pset_new hno]
            (repeat (first | refine GK.ro ?_ | (refine GK.box ?_; intro bl) | (refine GK.mkMap ?_; intro bm) | (refine GK.build0 tb ?_; intro bs)))
            refine G.draw [] [blk ba 44 (0, 0) (actC x)] (by kernel_rfl) ?_
            ((first | refine GH.to 0 ?_ | refine GH.tos 0 ?_); (first | refine GH.to 1 ?_ | refine GH.tos 1 ?_); (first | refine GH.to 2 ?_ | refine GH.tos 2 ?_); (first | refine GH.to 5 ?_ | refine GH.tos 5 ?_); (first | refine GH.to 6 ?_ | refine GH.tos 6 ?_); (first | refine GH.to 7 ?_ | refine GH.tos 7 ?_))
            refine GH.step2 3 8 rfl rfl (by kernel_rfl) ?_ ?_
            · refine Gt.buildLit tb (sz := 0) (n := 0) (by first | exact Wt.none | exact Wt.some rfl rfl (by first | exact rfl | decide +kernel)) rfl rfl (by kernel_rfl) rfl rfl rfl rfl rfl rfl ?_
              intro bx1
              refine GH.keep (fun _ s => Sat.sub (by repeat (first | exact SubR.nil | apply SubR.cons 0 rfl | apply SubR.cons 1 rfl | apply SubR.cons 2 rfl | apply SubR.cons 3 rfl | apply SubR.cons 4 rfl | apply SubR.cons 5 rfl | apply SubR.cons 6 rfl | apply SubR.cons 7 rfl | apply SubR.cons 8 rfl | apply SubR.cons 9 rfl | apply SubR.cons 10 rfl | apply SubR.cons 11 rfl | apply SubR.cons 12 rfl | apply SubR.cons 13 rfl | apply SubR.cons 14 rfl | apply SubR.cons 15 rfl)) s) ?_
              refine GH.step2 4 8 rfl rfl (by kernel_rfl) ?_ ?_
              · (first | refine Gt.append tb 1 (by first | exact Wt.none | exact Wt.some rfl rfl (by first | exact rfl | decide +kernel)) rfl (.inl ⟨_, rfl⟩) rfl rfl rfl rfl rfl (Src.slice (m := 1) (Rd.blk 0 rfl) (At.all _) rfl (one_of_all rfl)) (by omega) (by omega) ?_ | refine Gt.append tb 2 (by first | exact Wt.none | exact Wt.some rfl rfl (by first | exact rfl | decide +kernel)) rfl (.inl ⟨_, rfl⟩) rfl rfl rfl rfl rfl (Src.slice (m := 1) (Rd.blk 0 rfl) (At.all _) rfl (one_of_all rfl)) (by omega) (by omega) ?_ | refine Gt.append tb 3 (by first | exact Wt.none | exact Wt.some rfl rfl (by first | exact rfl | decide +kernel)) rfl (.inl ⟨_, rfl⟩) rfl rfl rfl rfl rfl (Src.slice (m := 1) (Rd.blk 0 rfl) (At.all _) rfl (one_of_all rfl)) (by omega) (by omega) ?_ | refine Gt.append tb 4 (by first | exact Wt.none | exact Wt.some rfl rfl (by first | exact rfl | decide +kernel)) rfl (.inl ⟨_, rfl⟩) rfl rfl rfl rfl rfl (Src.slice (m := 1) (Rd.blk 0 rfl) (At.all _) rfl (one_of_all rfl)) (by omega) (by omega) ?_ | refine Gt.append tb 5 (by first | exact Wt.none | exact Wt.some rfl rfl (by first | exact rfl | decide +kernel)) rfl (.inl ⟨_, rfl⟩) rfl rfl rfl rfl rfl (Src.slice (m := 1) (Rd.blk 0 rfl) (At.all _) rfl (one_of_all rfl)) (by omega) (by omega) ?_ | refine Gt.append tb 6 (by first | exact Wt.none | exact Wt.some rfl rfl (by first | exact rfl | decide +kernel)) rfl (.inl ⟨_, rfl⟩) rfl rfl rfl rfl rfl (Src.slice (m := 1) (Rd.blk 0 rfl) (At.all _) rfl (one_of_all rfl)) (by omega) (by omega) ?_ | refine Gt.append tb 7 (by first | exact Wt.none | exact Wt.some rfl rfl (by first | exact rfl | decide +kernel)) rfl (.inl ⟨_, rfl⟩) rfl rfl rfl rfl rfl (Src.slice (m := 1) (Rd.blk 0 rfl) (At.all _) rfl (one_of_all rfl)) (by omega) (by omega) ?_ | refine Gt.append tb 8 (by first | exact Wt.none | exact Wt.some rfl rfl (by first | exact rfl | decide +kernel)) rfl (.inl ⟨_, rfl⟩) rfl rfl rfl rfl rfl (Src.slice (m := 1) (Rd.blk 0 rfl) (At.all _) rfl (one_of_all rfl)) (by omega) (by omega) ?_ | refine Gt.append tb 9 (by first | exact Wt.none | exact Wt.some rfl rfl (by first | exact rfl | decide +kernel)) rfl (.inl ⟨_, rfl⟩) rfl rfl rfl rfl rfl (Src.slice (m := 1) (Rd.blk 0 rfl) (At.all _) rfl (one_of_all rfl)) (by omega) (by omega) ?_ | refine Gt.append tb 10 (by first | exact Wt.none | exact Wt.some rfl rfl (by first | exact rfl | decide +kernel)) rfl (.inl ⟨_, rfl⟩) rfl rfl rfl rfl rfl (Src.slice (m := 1) (Rd.blk 0 rfl) (At.all _) rfl (one_of_all rfl)) (by omega) (by omega) ?_ | refine Gt.append tb 11 (by first | exact Wt.none | exact Wt.some rfl rfl (by first | exact rfl | decide +kernel)) rfl (.inl ⟨_, rfl⟩) rfl rfl rfl rfl rfl (Src.slice (m := 1) (Rd.blk 0 rfl) (At.all _) rfl (one_of_all rfl)) (by omega) (by omega) ?_ | refine Gt.append tb 12 (by first | exact Wt.none | exact Wt.some rfl rfl (by first | exact rfl | decide +kernel)) rfl (.inl ⟨_, rfl⟩) rfl rfl rfl rfl rfl (Src.slice (m := 1) (Rd.blk 0 rfl) (At.all _) rfl (one_of_all rfl)) (by omega) (by omega) ?_)
                intro qa da
                refine GH.keep (fun _ s => Sat.sub (by repeat (first | exact SubR.nil | apply SubR.cons 0 rfl | apply SubR.cons 1 rfl | apply SubR.cons 2 rfl | apply SubR.cons 3 rfl | apply SubR.cons 4 rfl | apply SubR.cons 5 rfl | apply SubR.cons 6 rfl | apply SubR.cons 7 rfl | apply SubR.cons 8 rfl | apply SubR.cons 9 rfl | apply SubR.cons 10 rfl | apply SubR.cons 11 rfl | apply SubR.cons 12 rfl | apply SubR.cons 13 rfl | apply SubR.cons 14 rfl | apply SubR.cons 15 rfl)) s) ?_
                refine GH.step 8 rfl (by kernel_rfl) ?_
                refine Gt.buildLit tb (sz := 0) (n := 0) (by first | exact Wt.none | exact Wt.some rfl rfl (by first | exact rfl | decide +kernel)) rfl rfl (by kernel_rfl) rfl rfl rfl rfl rfl rfl ?_
                intro bx2
                refine GH.keep (fun _ s => Sat.sub (by repeat (first | exact SubR.nil | apply SubR.cons 0 rfl | apply SubR.cons 1 rfl | apply SubR.cons 2 rfl | apply SubR.cons 3 rfl | apply SubR.cons 4 rfl | apply SubR.cons 5 rfl | apply SubR.cons 6 rfl | apply SubR.cons 7 rfl | apply SubR.cons 8 rfl | apply SubR.cons 9 rfl | apply SubR.cons 10 rfl | apply SubR.cons 11 rfl | apply SubR.cons 12 rfl | apply SubR.cons 13 rfl | apply SubR.cons 14 rfl | apply SubR.cons 15 rfl)) s) ?_
                refine GH.heap (Γ' := [blk bx2 4 (0, 0) [.bool x.yes], row (.slice q2 P.length d2) 4 1 P.length (bools (howOf P)), row (.slice qa (P.length + 1) da) 9 1 (P.length + 1) (strs (whoOf P) ++ [str x.user]), board b [shV author (P ++ [(x.user, x.yes)])], blk ba 44 (0, 0) (actC x), poolOf H']) (fun _ s => Sat.sub (by repeat (first | exact SubR.nil | apply SubR.cons 0 rfl | apply SubR.cons 1 rfl | apply SubR.cons 2 rfl | apply SubR.cons 3 rfl | apply SubR.cons 4 rfl | apply SubR.cons 5 rfl | apply SubR.cons 6 rfl | apply SubR.cons 7 rfl | apply SubR.cons 8 rfl | apply SubR.cons 9 rfl | apply SubR.cons 10 rfl | apply SubR.cons 11 rfl | apply SubR.cons 12 rfl | apply SubR.cons 13 rfl | apply SubR.cons 14 rfl | apply SubR.cons 15 rfl)) s) ?_
                refine GH.step 9 rfl (by kernel_rfl) ?_
                refine Gt.append tb 1 (by first | exact Wt.none | exact Wt.some rfl rfl (by first | exact rfl | decide +kernel)) rfl (.inl ⟨_, rfl⟩) rfl rfl rfl rfl rfl (Src.slice (m := 1) (Rd.blk 0 rfl) (At.all _) rfl (one_of_all rfl)) (by omega) (by omega) ?_
                intro qb db
                refine GH.keep (fun _ s => Sat.sub (by repeat (first | exact SubR.nil | apply SubR.cons 0 rfl | apply SubR.cons 1 rfl | apply SubR.cons 2 rfl | apply SubR.cons 3 rfl | apply SubR.cons 4 rfl | apply SubR.cons 5 rfl | apply SubR.cons 6 rfl | apply SubR.cons 7 rfl | apply SubR.cons 8 rfl | apply SubR.cons 9 rfl | apply SubR.cons 10 rfl | apply SubR.cons 11 rfl | apply SubR.cons 12 rfl | apply SubR.cons 13 rfl | apply SubR.cons 14 rfl | apply SubR.cons 15 rfl)) s) ?_
                refine GH.weak (fr' := [(1, str author), (5, .pointer (some ⟨b, 0, none⟩)), (44, .slice (some ⟨b1, o1, none⟩) l.length c), (45, .int .i64 (l.length : Int)), (46, .int .i64 (i : Int)), (12, .int .i64 (-1)), (11, .pointer (some ⟨ba, 0, none⟩)), (93, .slice qa (P.length + 1) da), (98, .slice qb (P.length + 1) db)]) (Γ' := [board b [shV author (P ++ [(x.user, x.yes)])], row (.slice qa (P.length + 1) da) 9 1 (P.length + 1) (strs (whoOf P) ++ [str x.user]), row (.slice qb (P.length + 1) db) 4 1 (P.length + 1) (bools (howOf P) ++ [.bool x.yes]), blk ba 44 (0, 0) (actC x), poolOf H']) (by repeat (first | exact trivial | refine ⟨rfl, ?_⟩)) (fun _ s => Sat.sub (by repeat (first | exact SubR.nil | apply SubR.cons 0 rfl | apply SubR.cons 1 rfl | apply SubR.cons 2 rfl | apply SubR.cons 3 rfl | apply SubR.cons 4 rfl | apply SubR.cons 5 rfl | apply SubR.cons 6 rfl | apply SubR.cons 7 rfl | apply SubR.cons 8 rfl | apply SubR.cons 9 rfl | apply SubR.cons 10 rfl | apply SubR.cons 11 rfl | apply SubR.cons 12 rfl | apply SubR.cons 13 rfl | apply SubR.cons 14 rfl | apply SubR.cons 15 rfl)) s) ?_
                ((first | refine GH.to 10 ?_ | refine GH.tos 10 ?_); (first | refine GH.to 11 ?_ | refine GH.tos 11 ?_))
                refine GH.fin (by kernel_rfl) ?_
                (repeat (first | refine GK.ro ?_ | (refine GK.box ?_; intro bl) | (refine GK.mkMap ?_; intro bm) | (refine GK.build0 tb ?_; intro bs)))
                have hPn : (P ++ [(x.user, x.yes)]).length = P.length + 1 := by simp
                refine GQ.reach (P ++ [(x.user, x.yes)], (qa, da), (qb, db)) (hS.add hno hua) ?_ ?_
                · dsimp only
                  rw [hPn]
                  exact (by repeat (first | exact trivial | refine ⟨rfl, ?_⟩))
                · intro w s1
                  dsimp only
                  rw [hPn, who_snoc, how_snoc]
                  exact Sl.Sat.sub (by repeat (first | exact SubR.nil | apply SubR.cons 0 rfl | apply SubR.cons 1 rfl | apply SubR.cons 2 rfl | apply SubR.cons 3 rfl | apply SubR.cons 4 rfl | apply SubR.cons 5 rfl | apply SubR.cons 6 rfl | apply SubR.cons 7 rfl | apply SubR.cons 8 rfl | apply SubR.cons 9 rfl | apply SubR.cons 10 rfl | apply SubR.cons 11 rfl | apply SubR.cons 12 rfl | apply SubR.cons 13 rfl | apply SubR.cons 14 rfl | apply SubR.cons 15 rfl)) s1
              · refine Gt.buildLit tb (sz := 0) (n := 0) (by first | exact Wt.none | exact Wt.some rfl rfl (by first | exact rfl | decide +kernel)) rfl rfl (by kernel_rfl) rfl rfl rfl rfl rfl rfl ?_
                intro bx2
                refine GH.keep (fun _ s => Sat.sub (by repeat (first | exact SubR.nil | apply SubR.cons 0 rfl | apply SubR.cons 1 rfl | apply SubR.cons 2 rfl | apply SubR.cons 3 rfl | apply SubR.cons 4 rfl | apply SubR.cons 5 rfl | apply SubR.cons 6 rfl | apply SubR.cons 7 rfl | apply SubR.cons 8 rfl | apply SubR.cons 9 rfl | apply SubR.cons 10 rfl | apply SubR.cons 11 rfl | apply SubR.cons 12 rfl | apply SubR.cons 13 rfl | apply SubR.cons 14 rfl | apply SubR.cons 15 rfl)) s) ?_
                refine GH.heap (Γ' := [blk bx1 9 (0, 0) [str x.user], row (.slice q P.length d) 9 1 P.length (strs (whoOf P)), row (.slice q2 P.length d2) 4 1 P.length (bools (howOf P)), blk bx2 4 (0, 0) [.bool x.yes], board b [shV author (P ++ [(x.user, x.yes)])], blk ba 44 (0, 0) (actC x), poolOf H']) (fun _ s => Sat.sub (by repeat (first | exact SubR.nil | apply SubR.cons 0 rfl | apply SubR.cons 1 rfl | apply SubR.cons 2 rfl | apply SubR.cons 3 rfl | apply SubR.cons 4 rfl | apply SubR.cons 5 rfl | apply SubR.cons 6 rfl | apply SubR.cons 7 rfl | apply SubR.cons 8 rfl | apply SubR.cons 9 rfl | apply SubR.cons 10 rfl | apply SubR.cons 11 rfl | apply SubR.cons 12 rfl | apply SubR.cons 13 rfl | apply SubR.cons 14 rfl | apply SubR.cons 15 rfl)) s) ?_
                refine GH.step 4 rfl (by kernel_rfl) ?_
                refine Gt.append tb 1 (by first | exact Wt.none | exact Wt.some rfl rfl (by first | exact rfl | decide +kernel)) rfl (.inl ⟨_, rfl⟩) rfl rfl rfl rfl rfl (Src.slice (m := 1) (Rd.blk 0 rfl) (At.all _) rfl (one_of_all rfl)) (by omega) (by omega) ?_
                intro qa da
                refine GH.keep (fun _ s => Sat.sub (by repeat (first | exact SubR.nil | apply SubR.cons 0 rfl | apply SubR.cons 1 rfl | apply SubR.cons 2 rfl | apply SubR.cons 3 rfl | apply SubR.cons 4 rfl | apply SubR.cons 5 rfl | apply SubR.cons 6 rfl | apply SubR.cons 7 rfl | apply SubR.cons 8 rfl | apply SubR.cons 9 rfl | apply SubR.cons 10 rfl | apply SubR.cons 11 rfl | apply SubR.cons 12 rfl | apply SubR.cons 13 rfl | apply SubR.cons 14 rfl | apply SubR.cons 15 rfl)) s) ?_
                refine GH.heap (Γ' := [blk bx2 4 (0, 0) [.bool x.yes], row (.slice q2 P.length d2) 4 1 P.length (bools (howOf P)), row (.slice qa (P.length + 1) da) 9 1 (P.length + 1) (strs (whoOf P) ++ [str x.user]), board b [shV author (P ++ [(x.user, x.yes)])], blk ba 44 (0, 0) (actC x), poolOf H']) (fun _ s => Sat.sub (by repeat (first | exact SubR.nil | apply SubR.cons 0 rfl | apply SubR.cons 1 rfl | apply SubR.cons 2 rfl | apply SubR.cons 3 rfl | apply SubR.cons 4 rfl | apply SubR.cons 5 rfl | apply SubR.cons 6 rfl | apply SubR.cons 7 rfl | apply SubR.cons 8 rfl | apply SubR.cons 9 rfl | apply SubR.cons 10 rfl | apply SubR.cons 11 rfl | apply SubR.cons 12 rfl | apply SubR.cons 13 rfl | apply SubR.cons 14 rfl | apply SubR.cons 15 rfl)) s) ?_
                refine GH.step 9 rfl (by kernel_rfl) ?_
                refine Gt.append tb 1 (by first | exact Wt.none | exact Wt.some rfl rfl (by first | exact rfl | decide +kernel)) rfl (.inl ⟨_, rfl⟩) rfl rfl rfl rfl rfl (Src.slice (m := 1) (Rd.blk 0 rfl) (At.all _) rfl (one_of_all rfl)) (by omega) (by omega) ?_
                intro qb db
                refine GH.keep (fun _ s => Sat.sub (by repeat (first | exact SubR.nil | apply SubR.cons 0 rfl | apply SubR.cons 1 rfl | apply SubR.cons 2 rfl | apply SubR.cons 3 rfl | apply SubR.cons 4 rfl | apply SubR.cons 5 rfl | apply SubR.cons 6 rfl | apply SubR.cons 7 rfl | apply SubR.cons 8 rfl | apply SubR.cons 9 rfl | apply SubR.cons 10 rfl | apply SubR.cons 11 rfl | apply SubR.cons 12 rfl | apply SubR.cons 13 rfl | apply SubR.cons 14 rfl | apply SubR.cons 15 rfl)) s) ?_
                refine GH.weak (fr' := [(1, str author), (5, .pointer (some ⟨b, 0, none⟩)), (44, .slice (some ⟨b1, o1, none⟩) l.length c), (45, .int .i64 (l.length : Int)), (46, .int .i64 (i : Int)), (12, .int .i64 (-1)), (11, .pointer (some ⟨ba, 0, none⟩)), (93, .slice qa (P.length + 1) da), (98, .slice qb (P.length + 1) db)]) (Γ' := [board b [shV author (P ++ [(x.user, x.yes)])], row (.slice qa (P.length + 1) da) 9 1 (P.length + 1) (strs (whoOf P) ++ [str x.user]), row (.slice qb (P.length + 1) db) 4 1 (P.length + 1) (bools (howOf P) ++ [.bool x.yes]), blk ba 44 (0, 0) (actC x), poolOf H']) (by repeat (first | exact trivial | refine ⟨rfl, ?_⟩)) (fun _ s => Sat.sub (by repeat (first | exact SubR.nil | apply SubR.cons 0 rfl | apply SubR.cons 1 rfl | apply SubR.cons 2 rfl | apply SubR.cons 3 rfl | apply SubR.cons 4 rfl | apply SubR.cons 5 rfl | apply SubR.cons 6 rfl | apply SubR.cons 7 rfl | apply SubR.cons 8 rfl | apply SubR.cons 9 rfl | apply SubR.cons 10 rfl | apply SubR.cons 11 rfl | apply SubR.cons 12 rfl | apply SubR.cons 13 rfl | apply SubR.cons 14 rfl | apply SubR.cons 15 rfl)) s) ?_
                ((first | refine GH.to 10 ?_ | refine GH.tos 10 ?_); (first | refine GH.to 11 ?_ | refine GH.tos 11 ?_))
                refine GH.fin (by kernel_rfl) ?_
                (repeat (first | refine GK.ro ?_ | (refine GK.box ?_; intro bl) | (refine GK.mkMap ?_; intro bm) | (refine GK.build0 tb ?_; intro bs)))
                have hPn : (P ++ [(x.user, x.yes)]).length = P.length + 1 := by simp
                refine GQ.reach (P ++ [(x.user, x.yes)], (qa, da), (qb, db)) (hS.add hno hua) ?_ ?_
                · dsimp only
                  rw [hPn]
                  exact (by repeat (first | exact trivial | refine ⟨rfl, ?_⟩))
                · intro w s1
                  dsimp only
                  rw [hPn, who_snoc, how_snoc]
                  exact Sl.Sat.sub (by repeat (first | exact SubR.nil | apply SubR.cons 0 rfl | apply SubR.cons 1 rfl | apply SubR.cons 2 rfl | apply SubR.cons 3 rfl | apply SubR.cons 4 rfl | apply SubR.cons 5 rfl | apply SubR.cons 6 rfl | apply SubR.cons 7 rfl | apply SubR.cons 8 rfl | apply SubR.cons 9 rfl | apply SubR.cons 10 rfl | apply SubR.cons 11 rfl | apply SubR.cons 12 rfl | apply SubR.cons 13 rfl | apply SubR.cons 14 rfl | apply SubR.cons 15 rfl)) s1
            · refine Gt.buildLit tb (sz := 0) (n := 0) (by first | exact Wt.none | exact Wt.some rfl rfl (by first | exact rfl | decide +kernel)) rfl rfl (by kernel_rfl) rfl rfl rfl rfl rfl rfl ?_
              intro bx2
              refine GH.keep (fun _ s => Sat.sub (by repeat (first | exact SubR.nil | apply SubR.cons 0 rfl | apply SubR.cons 1 rfl | apply SubR.cons 2 rfl | apply SubR.cons 3 rfl | apply SubR.cons 4 rfl | apply SubR.cons 5 rfl | apply SubR.cons 6 rfl | apply SubR.cons 7 rfl | apply SubR.cons 8 rfl | apply SubR.cons 9 rfl | apply SubR.cons 10 rfl | apply SubR.cons 11 rfl | apply SubR.cons 12 rfl | apply SubR.cons 13 rfl | apply SubR.cons 14 rfl | apply SubR.cons 15 rfl)) s) ?_
              refine GH.step 3 rfl (by kernel_rfl) ?_
              refine Gt.buildLit tb (sz := 0) (n := 0) (by first | exact Wt.none | exact Wt.some rfl rfl (by first | exact rfl | decide +kernel)) rfl rfl (by kernel_rfl) rfl rfl rfl rfl rfl rfl ?_
              intro bx1
              refine GH.keep (fun _ s => Sat.sub (by repeat (first | exact SubR.nil | apply SubR.cons 0 rfl | apply SubR.cons 1 rfl | apply SubR.cons 2 rfl | apply SubR.cons 3 rfl | apply SubR.cons 4 rfl | apply SubR.cons 5 rfl | apply SubR.cons 6 rfl | apply SubR.cons 7 rfl | apply SubR.cons 8 rfl | apply SubR.cons 9 rfl | apply SubR.cons 10 rfl | apply SubR.cons 11 rfl | apply SubR.cons 12 rfl | apply SubR.cons 13 rfl | apply SubR.cons 14 rfl | apply SubR.cons 15 rfl)) s) ?_
              refine GH.heap (Γ' := [blk bx1 9 (0, 0) [str x.user], row (.slice q P.length d) 9 1 P.length (strs (whoOf P)), row (.slice q2 P.length d2) 4 1 P.length (bools (howOf P)), blk bx2 4 (0, 0) [.bool x.yes], board b [shV author (P ++ [(x.user, x.yes)])], blk ba 44 (0, 0) (actC x), poolOf H']) (fun _ s => Sat.sub (by repeat (first | exact SubR.nil | apply SubR.cons 0 rfl | apply SubR.cons 1 rfl | apply SubR.cons 2 rfl | apply SubR.cons 3 rfl | apply SubR.cons 4 rfl | apply SubR.cons 5 rfl | apply SubR.cons 6 rfl | apply SubR.cons 7 rfl | apply SubR.cons 8 rfl | apply SubR.cons 9 rfl | apply SubR.cons 10 rfl | apply SubR.cons 11 rfl | apply SubR.cons 12 rfl | apply SubR.cons 13 rfl | apply SubR.cons 14 rfl | apply SubR.cons 15 rfl)) s) ?_
              refine GH.step 4 rfl (by kernel_rfl) ?_
              refine Gt.append tb 1 (by first | exact Wt.none | exact Wt.some rfl rfl (by first | exact rfl | decide +kernel)) rfl (.inl ⟨_, rfl⟩) rfl rfl rfl rfl rfl (Src.slice (m := 1) (Rd.blk 0 rfl) (At.all _) rfl (one_of_all rfl)) (by omega) (by omega) ?_
              intro qa da
              refine GH.keep (fun _ s => Sat.sub (by repeat (first | exact SubR.nil | apply SubR.cons 0 rfl | apply SubR.cons 1 rfl | apply SubR.cons 2 rfl | apply SubR.cons 3 rfl | apply SubR.cons 4 rfl | apply SubR.cons 5 rfl | apply SubR.cons 6 rfl | apply SubR.cons 7 rfl | apply SubR.cons 8 rfl | apply SubR.cons 9 rfl | apply SubR.cons 10 rfl | apply SubR.cons 11 rfl | apply SubR.cons 12 rfl | apply SubR.cons 13 rfl | apply SubR.cons 14 rfl | apply SubR.cons 15 rfl)) s) ?_
              refine GH.heap (Γ' := [blk bx2 4 (0, 0) [.bool x.yes], row (.slice q2 P.length d2) 4 1 P.length (bools (howOf P)), row (.slice qa (P.length + 1) da) 9 1 (P.length + 1) (strs (whoOf P) ++ [str x.user]), board b [shV author (P ++ [(x.user, x.yes)])], blk ba 44 (0, 0) (actC x), poolOf H']) (fun _ s => Sat.sub (by repeat (first | exact SubR.nil | apply SubR.cons 0 rfl | apply SubR.cons 1 rfl | apply SubR.cons 2 rfl | apply SubR.cons 3 rfl | apply SubR.cons 4 rfl | apply SubR.cons 5 rfl | apply SubR.cons 6 rfl | apply SubR.cons 7 rfl | apply SubR.cons 8 rfl | apply SubR.cons 9 rfl | apply SubR.cons 10 rfl | apply SubR.cons 11 rfl | apply SubR.cons 12 rfl | apply SubR.cons 13 rfl | apply SubR.cons 14 rfl | apply SubR.cons 15 rfl)) s) ?_
              refine GH.step 9 rfl (by kernel_rfl) ?_
              refine Gt.append tb 1 (by first | exact Wt.none | exact Wt.some rfl rfl (by first | exact rfl | decide +kernel)) rfl (.inl ⟨_, rfl⟩) rfl rfl rfl rfl rfl (Src.slice (m := 1) (Rd.blk 0 rfl) (At.all _) rfl (one_of_all rfl)) (by omega) (by omega) ?_
              intro qb db
              refine GH.keep (fun _ s => Sat.sub (by repeat (first | exact SubR.nil | apply SubR.cons 0 rfl | apply SubR.cons 1 rfl | apply SubR.cons 2 rfl | apply SubR.cons 3 rfl | apply SubR.cons 4 rfl | apply SubR.cons 5 rfl | apply SubR.cons 6 rfl | apply SubR.cons 7 rfl | apply SubR.cons 8 rfl | apply SubR.cons 9 rfl | apply SubR.cons 10 rfl | apply SubR.cons 11 rfl | apply SubR.cons 12 rfl | apply SubR.cons 13 rfl | apply SubR.cons 14 rfl | apply SubR.cons 15 rfl)) s) ?_
              refine GH.weak (fr' := [(1, str author), (5, .pointer (some ⟨b, 0, none⟩)), (44, .slice (some ⟨b1, o1, none⟩) l.length c), (45, .int .i64 (l.length : Int)), (46, .int .i64 (i : Int)), (12, .int .i64 (-1)), (11, .pointer (some ⟨ba, 0, none⟩)), (93, .slice qa (P.length + 1) da), (98, .slice qb (P.length + 1) db)]) (Γ' := [board b [shV author (P ++ [(x.user, x.yes)])], row (.slice qa (P.length + 1) da) 9 1 (P.length + 1) (strs (whoOf P) ++ [str x.user]), row (.slice qb (P.length + 1) db) 4 1 (P.length + 1) (bools (howOf P) ++ [.bool x.yes]), blk ba 44 (0, 0) (actC x), poolOf H']) (by repeat (first | exact trivial | refine ⟨rfl, ?_⟩)) (fun _ s => Sat.sub (by repeat (first | exact SubR.nil | apply SubR.cons 0 rfl | apply SubR.cons 1 rfl | apply SubR.cons 2 rfl | apply SubR.cons 3 rfl | apply SubR.cons 4 rfl | apply SubR.cons 5 rfl | apply SubR.cons 6 rfl | apply SubR.cons 7 rfl | apply SubR.cons 8 rfl | apply SubR.cons 9 rfl | apply SubR.cons 10 rfl | apply SubR.cons 11 rfl | apply SubR.cons 12 rfl | apply SubR.cons 13 rfl | apply SubR.cons 14 rfl | apply SubR.cons 15 rfl)) s) ?_
              ((first | refine GH.to 10 ?_ | refine GH.tos 10 ?_); (first | refine GH.to 11 ?_ | refine GH.tos 11 ?_))
              refine GH.fin (by kernel_rfl) ?_
              (repeat (first | refine GK.ro ?_ | (refine GK.box ?_; intro bl) | (refine GK.mkMap ?_; intro bm) | (refine GK.build0 tb ?_; intro bs)))
              have hPn : (P ++ [(x.user, x.yes)]).length = P.length + 1 := by simp
              refine GQ.reach (P ++ [(x.user, x.yes)], (qa, da), (qb, db)) (hS.add hno hua) ?_ ?_
              · dsimp only
                rw [hPn]
                exact (by repeat (first | exact trivial | refine ⟨rfl, ?_⟩))
              · intro w s1
                dsimp only
                rw [hPn, who_snoc, how_snoc]
                exact Sl.Sat.sub (by repeat (first | exact SubR.nil | apply SubR.cons 0 rfl | apply SubR.cons 1 rfl | apply SubR.cons 2 rfl | apply SubR.cons 3 rfl | apply SubR.cons 4 rfl | apply SubR.cons 5 rfl | apply SubR.cons 6 rfl | apply SubR.cons 7 rfl | apply SubR.cons 8 rfl | apply SubR.cons 9 rfl | apply SubR.cons 10 rfl | apply SubR.cons 11 rfl | apply SubR.cons 12 rfl | apply SubR.cons 13 rfl | apply SubR.cons 14 rfl | apply SubR.cons 15 rfl)) s1
          · have hkP : k < P.length := by have := (List.getElem?_eq_some_iff.1 hk2).1; omega
            rw [pset_at hS.nd hk2]
            refine GK.openRow 2 rfl (by omega) fun b4 tail fz hp hnc htl hxl hfr => ?_
            subst hp
            (repeat (first | refine GK.ro ?_ | (refine GK.box ?_; intro bl) | (refine GK.mkMap ?_; intro bm) | (refine GK.build0 tb ?_; intro bs)))
            refine GL.cons ?_; refine Gt.storeAt tb 0 (by first | exact Wt.none | exact Wt.some rfl rfl (by first | exact rfl | decide +kernel)) rfl rfl rfl rfl rfl ?_ ?_ ?_
            · simp [bools_len]; omega
            · exact free_sub hfr (Nat.zero_le _) (by simp [bools_len]; omega)
            rw [show (bools (howOf P) ++ tail).set (0 + (k : Int).toNat * 1) (.bool x.yes) = bools (howOf (P.set k (x.user, x.yes))) ++ tail by
              rw [show 0 + (k : Int).toNat * 1 = k by omega, List.set_append_left _ _ (by rw [bools_len]; omega), howOf_set, bools_set]]
            (repeat (first | refine GK.ro ?_ | (refine GK.box ?_; intro bl) | (refine GK.mkMap ?_; intro bm) | (refine GK.build0 tb ?_; intro bs)))
            have hPl2 : (P.set k (x.user, x.yes)).length = P.length := by simp
            refine GQ.reach (P.set k (x.user, x.yes), (q, d), (some ⟨b4, 0, none⟩, d2)) (hS.turn hk2) ?_ ?_
            · dsimp only
              rw [hPl2]
              exact (by repeat (first | exact trivial | refine ⟨rfl, ?_⟩))
            · intro w s1
              dsimp only
              rw [hPl2, whoOf_set P k x.user x.yes hk2]
              have s2 : Sat [blk b4 4 fz (bools (howOf (P.set k (x.user, x.yes))) ++ tail), board b [shV author (P.set k (x.user, x.yes))], row (.slice q P.length d) 9 1 P.length (strs (whoOf P)), poolOf H'] hF w := Sl.Sat.sub (by repeat (first | exact SubR.nil | apply SubR.cons 0 rfl | apply SubR.cons 1 rfl | apply SubR.cons 2 rfl | apply SubR.cons 3 rfl | apply SubR.cons 4 rfl | apply SubR.cons 5 rfl | apply SubR.cons 6 rfl | apply SubR.cons 7 rfl | apply SubR.cons 8 rfl | apply SubR.cons 9 rfl | apply SubR.cons 10 rfl | apply SubR.cons 11 rfl | apply SubR.cons 12 rfl | apply SubR.cons 13 rfl | apply SubR.cons 14 rfl | apply SubR.cons 15 rfl)) s1
              have s3 := Sl.Sat.row_blk (n := P.length) hnc htl (by rw [bools_len, howOf_len, hPl2, Nat.mul_one]) (by rw [← hfr]; simp [bools_len, howOf_len]) s2
              exact s3.perm (((List.Perm.swap _ _ _).trans ((List.Perm.swap _ _ _).cons _)))
      (repeat (first | refine GK.ro ?_ | (refine GK.box ?_; intro bl) | (refine GK.mkMap ?_; intro bm) | (refine GK.build0 tb ?_; intro bs)))
      (first | refine G.condP rfl (fun hb => ?_) (fun hb => ?_) | refine G.condN rfl (fun hb => ?_) (fun hb => ?_) | refine G.cond rfl (fun hb => ?_) (fun hb => ?_))
      · rcases hat_ with ⟨rfl, hno⟩ | ⟨k, rfl, hk2⟩
        · (repeat (first | refine GK.ro ?_ | (refine GK.box ?_; intro bl) | (refine GK.mkMap ?_; intro bm) | (refine GK.build0 tb ?_; intro bs)))
          refine GL.cons ?_; refine GO.callA (fun hF' hle hH => unvote_ok (L := [shV author P]) (id := 1) (u := x.user) (Nat.le_of_ble_eq_true rfl)) (by first | exact Wt.none | exact Wt.some rfl rfl (by first | exact rfl | decide +kernel)) (by kernel_rfl) rfl rfl (by repeat (first | exact SubR.nil | apply SubR.cons 0 rfl | apply SubR.cons 1 rfl | apply SubR.cons 2 rfl | apply SubR.cons 3 rfl | apply SubR.cons 4 rfl | apply SubR.cons 5 rfl | apply SubR.cons 6 rfl | apply SubR.cons 7 rfl | apply SubR.cons 8 rfl | apply SubR.cons 9 rfl | apply SubR.cons 10 rfl | apply SubR.cons 11 rfl | apply SubR.cons 12 rfl | apply SubR.cons 13 rfl | apply SubR.cons 14 rfl | apply SubR.cons 15 rfl)) ?_
          rw [unv_no hno]
          show ∀ v Γ', (v = Value.int .i64 111 ∧ Γ' = [board b [shV author P]]) → _
          rintro v Γ' ⟨rfl, rfl⟩
          (repeat (first | refine GK.ro ?_ | (refine GK.box ?_; intro bl) | (refine GK.mkMap ?_; intro bm) | (refine GK.build0 tb ?_; intro bs)))
          exact GQ.reach (P, (q, d), (q2, d2)) hS.more (by repeat (first | exact trivial | refine ⟨rfl, ?_⟩)) (fun _ s => Sat.sub (by repeat (first | exact SubR.nil | apply SubR.cons 0 rfl | apply SubR.cons 1 rfl | apply SubR.cons 2 rfl | apply SubR.cons 3 rfl | apply SubR.cons 4 rfl | apply SubR.cons 5 rfl | apply SubR.cons 6 rfl | apply SubR.cons 7 rfl | apply SubR.cons 8 rfl | apply SubR.cons 9 rfl | apply SubR.cons 10 rfl | apply SubR.cons 11 rfl | apply SubR.cons 12 rfl | apply SubR.cons 13 rfl | apply SubR.cons 14 rfl | apply SubR.cons 15 rfl)) s)
        · have hkP : k < P.length := by have := (List.getElem?_eq_some_iff.1 hk2).1; omega
          have h118 : (!(decide ((0 : Int) = 0) == decide ((0 : Int) ≤ (k : Int)))) = false := by simp
          (repeat (first | refine GK.ro ?_ | (refine GK.box ?_; intro bl) | (refine GK.mkMap ?_; intro bm) | (refine GK.build0 tb ?_; intro bs)))
          refine GL.cons ?_; refine GO.callA (fun hF' hle hH => unvote_ok (L := [shV author P]) (id := 1) (u := x.user) (Nat.le_of_ble_eq_true rfl)) (by first | exact Wt.none | exact Wt.some rfl rfl (by first | exact rfl | decide +kernel)) (by kernel_rfl) rfl rfl (by repeat (first | exact SubR.nil | apply SubR.cons 0 rfl | apply SubR.cons 1 rfl | apply SubR.cons 2 rfl | apply SubR.cons 3 rfl | apply SubR.cons 4 rfl | apply SubR.cons 5 rfl | apply SubR.cons 6 rfl | apply SubR.cons 7 rfl | apply SubR.cons 8 rfl | apply SubR.cons 9 rfl | apply SubR.cons 10 rfl | apply SubR.cons 11 rfl | apply SubR.cons 12 rfl | apply SubR.cons 13 rfl | apply SubR.cons 14 rfl | apply SubR.cons 15 rfl)) ?_
          rw [unv_yes (List.mem_of_getElem? hk2), pdel_at hS.nd hk2]
          show ∀ v Γ', (v = Value.int .i64 0 ∧ Γ' = [board b [shV author (P.eraseIdx k)]]) → _
          rintro v Γ' ⟨rfl, rfl⟩
          (repeat (first | refine GK.ro ?_ | (refine GK.box ?_; intro bl) | (refine GK.mkMap ?_; intro bm) | (refine GK.build0 tb ?_; intro bs)))
          refine GK.heap (Γ' := [row (.slice q P.length d) 9 1 P.length (strs (whoOf P)), row (.slice q2 P.length d2) 4 1 P.length (bools (howOf P)), board b [shV author (P.eraseIdx k)], poolOf H']) (fun _ s => Sat.sub (by repeat (first | exact SubR.nil | apply SubR.cons 0 rfl | apply SubR.cons 1 rfl | apply SubR.cons 2 rfl | apply SubR.cons 3 rfl | apply SubR.cons 4 rfl | apply SubR.cons 5 rfl | apply SubR.cons 6 rfl | apply SubR.cons 7 rfl | apply SubR.cons 8 rfl | apply SubR.cons 9 rfl | apply SubR.cons 10 rfl | apply SubR.cons 11 rfl | apply SubR.cons 12 rfl | apply SubR.cons 13 rfl | apply SubR.cons 14 rfl | apply SubR.cons 15 rfl)) s) ?_
          refine GK.rowCap 0 rfl fun hcd1 _ => ?_
          refine GK.rowCap 1 rfl fun hcd2 _ => ?_
          have twl : ((strs (whoOf P)).take (k * 1)).length = k * 1 := by rw [List.length_take, strs_len]; omega
          have thl : ((bools (howOf P)).take (k * 1)).length = k * 1 := by rw [List.length_take, bools_len]; omega
          have hPe : (P.eraseIdx k).length = P.length - 1 := by rw [List.length_eraseIdx_of_lt hkP]
          refine G.draw [] [] (by kernel_rfl) ?_
          ((first | refine GH.to 0 ?_ | refine GH.tos 0 ?_); (first | refine GH.to 1 ?_ | refine GH.tos 1 ?_); (first | refine GH.to 2 ?_ | refine GH.tos 2 ?_); (first | refine GH.to 3 ?_ | refine GH.tos 3 ?_); (first | refine GH.to 4 ?_ | refine GH.tos 4 ?_); (first | refine GH.to 5 ?_ | refine GH.tos 5 ?_); (first | refine GH.to 6 ?_ | refine GH.tos 6 ?_); (first | refine GH.to 7 ?_ | refine GH.tos 7 ?_); (first | refine GH.to 9 ?_ | refine GH.tos 9 ?_); (first | refine GH.to 10 ?_ | refine GH.tos 10 ?_); (first | refine GH.to 11 ?_ | refine GH.tos 11 ?_); (first | refine GH.to 12 ?_ | refine GH.tos 12 ?_); (first | refine GH.to 13 ?_ | refine GH.tos 13 ?_); (first | refine GH.to 14 ?_ | refine GH.tos 14 ?_); (first | refine GH.to 15 ?_ | refine GH.tos 15 ?_); (first | refine GH.to 16 ?_ | refine GH.tos 16 ?_))
          rw [show ((k : Int) + 1).toNat = k + 1 from by omega, Int.toNat_natCast]
          by_cases hlast : k + 1 = P.length
          · have e0 : P.length - (k + 1) = 0 := by omega
            rw [e0]
            refine GH.heap (Γ' := [row (.slice q k k) 9 1 k ((strs (whoOf P)).take (k * 1)), row (.slice q2 k k) 4 1 k ((bools (howOf P)).take (k * 1)), board b [shV author (P.eraseIdx k)], poolOf H']) (fun w s1 => ?_) ?_
            · have s2 := Sl.Sat.row_front (i := k) (by omega) s1
              have s3 := Sl.Sat.row_front (i := k) (by omega) (s2.perm (.swap _ _ _))
              exact s3.perm (.swap _ _ _)
            refine GH.step 8 rfl (by kernel_rfl) ?_
            refine Gt.append tb 0 (m := 0) (news := []) (by first | exact Wt.none | exact Wt.some rfl rfl (by first | exact rfl | decide +kernel)) rfl (.inl ⟨_, rfl⟩) rfl rfl rfl rfl rfl (RS.src RSzero (fun u hu => by simp at hu) rfl ⟨_, _, rfl⟩) (by omega) (by omega) ?_
            intro qa da
            refine GH.keep (fun _ s => Sat.sub (by repeat (first | exact SubR.nil | apply SubR.cons 0 rfl | apply SubR.cons 1 rfl | apply SubR.cons 2 rfl | apply SubR.cons 3 rfl | apply SubR.cons 4 rfl | apply SubR.cons 5 rfl | apply SubR.cons 6 rfl | apply SubR.cons 7 rfl | apply SubR.cons 8 rfl | apply SubR.cons 9 rfl | apply SubR.cons 10 rfl | apply SubR.cons 11 rfl | apply SubR.cons 12 rfl | apply SubR.cons 13 rfl | apply SubR.cons 14 rfl | apply SubR.cons 15 rfl)) s) ?_
            refine GH.step 17 rfl (by kernel_rfl) ?_
            refine Gt.append tb 1 (m := 0) (news := []) (by first | exact Wt.none | exact Wt.some rfl rfl (by first | exact rfl | decide +kernel)) rfl (.inl ⟨_, rfl⟩) rfl rfl rfl rfl rfl (RS.src RSzero (fun u hu => by simp at hu) rfl ⟨_, _, rfl⟩) (by omega) (by omega) ?_
            intro qb db
            refine GH.keep (fun _ s => Sat.sub (by repeat (first | exact SubR.nil | apply SubR.cons 0 rfl | apply SubR.cons 1 rfl | apply SubR.cons 2 rfl | apply SubR.cons 3 rfl | apply SubR.cons 4 rfl | apply SubR.cons 5 rfl | apply SubR.cons 6 rfl | apply SubR.cons 7 rfl | apply SubR.cons 8 rfl | apply SubR.cons 9 rfl | apply SubR.cons 10 rfl | apply SubR.cons 11 rfl | apply SubR.cons 12 rfl | apply SubR.cons 13 rfl | apply SubR.cons 14 rfl | apply SubR.cons 15 rfl)) s) ?_
            ((first | refine GH.to 18 ?_ | refine GH.tos 18 ?_); (first | refine GH.to 19 ?_ | refine GH.tos 19 ?_))
            refine GH.fin (by kernel_rfl) ?_
            (repeat (first | refine GK.ro ?_ | (refine GK.box ?_; intro bl) | (refine GK.mkMap ?_; intro bm) | (refine GK.build0 tb ?_; intro bs)))
            have ek : k + 0 = (P.eraseIdx k).length := by rw [hPe]; omega
            have ew : (strs (whoOf P)).take (k * 1) ++ [] = strs (whoOf (P.eraseIdx k)) := by
              rw [who_cut, List.drop_eq_nil_of_le (by rw [strs_len]; omega)]
            have eh : (bools (howOf P)).take (k * 1) ++ [] = bools (howOf (P.eraseIdx k)) := by
              rw [how_cut, List.drop_eq_nil_of_le (by rw [bools_len]; omega)]
            rw [ek, ew, eh]
            exact GQ.reach (P.eraseIdx k, (qa, da), (qb, db)) (hS.drop k) (by repeat (first | exact trivial | refine ⟨rfl, ?_⟩)) (fun _ s => Sat.sub (by repeat (first | exact SubR.nil | apply SubR.cons 0 rfl | apply SubR.cons 1 rfl | apply SubR.cons 2 rfl | apply SubR.cons 3 rfl | apply SubR.cons 4 rfl | apply SubR.cons 5 rfl | apply SubR.cons 6 rfl | apply SubR.cons 7 rfl | apply SubR.cons 8 rfl | apply SubR.cons 9 rfl | apply SubR.cons 10 rfl | apply SubR.cons 11 rfl | apply SubR.cons 12 rfl | apply SubR.cons 13 rfl | apply SubR.cons 14 rfl | apply SubR.cons 15 rfl)) s)
          · have dwl : ((strs (whoOf P)).drop ((k + 1) * 1)).length = (P.length - (k + 1)) * 1 := by rw [List.length_drop, strs_len]; omega
            have dhl : ((bools (howOf P)).drop ((k + 1) * 1)).length = (P.length - (k + 1)) * 1 := by rw [List.length_drop, bools_len]; omega
            refine GH.step 8 rfl (by kernel_rfl) ?_
            refine Gt.appendNew tb (by first | exact Wt.none | exact Wt.some rfl rfl (by first | exact rfl | decide +kernel)) rfl (.inl ⟨_, rfl⟩) rfl rfl rfl rfl (RS.take (RS.row 0 rfl) (by omega) (Nat.le_refl _)) (RS.src (RS.cut (RS.row 0 rfl) (by omega)) (fun u hu => strs_cell _ u (List.mem_of_mem_drop hu)) dwl ⟨_, _, rfl⟩) (by omega) (by omega) (by omega) ?_
            intro qa da
            refine GH.keep (fun _ s => Sat.sub (by repeat (first | exact SubR.nil | apply SubR.cons 0 rfl | apply SubR.cons 1 rfl | apply SubR.cons 2 rfl | apply SubR.cons 3 rfl | apply SubR.cons 4 rfl | apply SubR.cons 5 rfl | apply SubR.cons 6 rfl | apply SubR.cons 7 rfl | apply SubR.cons 8 rfl | apply SubR.cons 9 rfl | apply SubR.cons 10 rfl | apply SubR.cons 11 rfl | apply SubR.cons 12 rfl | apply SubR.cons 13 rfl | apply SubR.cons 14 rfl | apply SubR.cons 15 rfl)) s) ?_
            refine GH.step 17 rfl (by kernel_rfl) ?_
            refine Gt.appendNew tb (by first | exact Wt.none | exact Wt.some rfl rfl (by first | exact rfl | decide +kernel)) rfl (.inl ⟨_, rfl⟩) rfl rfl rfl rfl (RS.take (RS.row 2 rfl) (by omega) (Nat.le_refl _)) (RS.src (RS.cut (RS.row 2 rfl) (by omega)) (fun u hu => bools_cell _ u (List.mem_of_mem_drop hu)) dhl ⟨_, _, rfl⟩) (by omega) (by omega) (by omega) ?_
            intro qb db
            refine GH.keep (fun _ s => Sat.sub (by repeat (first | exact SubR.nil | apply SubR.cons 0 rfl | apply SubR.cons 1 rfl | apply SubR.cons 2 rfl | apply SubR.cons 3 rfl | apply SubR.cons 4 rfl | apply SubR.cons 5 rfl | apply SubR.cons 6 rfl | apply SubR.cons 7 rfl | apply SubR.cons 8 rfl | apply SubR.cons 9 rfl | apply SubR.cons 10 rfl | apply SubR.cons 11 rfl | apply SubR.cons 12 rfl | apply SubR.cons 13 rfl | apply SubR.cons 14 rfl | apply SubR.cons 15 rfl)) s) ?_
            ((first | refine GH.to 18 ?_ | refine GH.tos 18 ?_); (first | refine GH.to 19 ?_ | refine GH.tos 19 ?_))
            refine GH.fin (by kernel_rfl) ?_
            (repeat (first | refine GK.ro ?_ | (refine GK.box ?_; intro bl) | (refine GK.mkMap ?_; intro bm) | (refine GK.build0 tb ?_; intro bs)))
            rw [show k + (P.length - (k + 1)) = (P.eraseIdx k).length by rw [hPe]; omega, ← who_cut, ← how_cut]
            exact GQ.reach (P.eraseIdx k, (qa, da), (qb, db)) (hS.drop k) (by repeat (first | exact trivial | refine ⟨rfl, ?_⟩)) (fun _ s => Sat.sub (by repeat (first | exact SubR.nil | apply SubR.cons 0 rfl | apply SubR.cons 1 rfl | apply SubR.cons 2 rfl | apply SubR.cons 3 rfl | apply SubR.cons 4 rfl | apply SubR.cons 5 rfl | apply SubR.cons 6 rfl | apply SubR.cons 7 rfl | apply SubR.cons 8 rfl | apply SubR.cons 9 rfl | apply SubR.cons 10 rfl | apply SubR.cons 11 rfl | apply SubR.cons 12 rfl | apply SubR.cons 13 rfl | apply SubR.cons 14 rfl | apply SubR.cons 15 rfl)) s)
      (repeat (first | refine GK.ro ?_ | (refine GK.box ?_; intro bl) | (refine GK.mkMap ?_; intro bm) | (refine GK.build0 tb ?_; intro bs)))
      exact GQ.reach (P, (q, d), (q2, d2)) hS.more (by repeat (first | exact trivial | refine ⟨rfl, ?_⟩)) (fun _ s => Sat.sub (by repeat (first | exact SubR.nil | apply SubR.cons 0 rfl | apply SubR.cons 1 rfl | apply SubR.cons 2 rfl | apply SubR.cons 3 rfl | apply SubR.cons 4 rfl | apply SubR.cons 5 rfl | apply SubR.cons 6 rfl | apply SubR.cons 7 rfl | apply SubR.cons 8 rfl | apply SubR.cons 9 rfl | apply SubR.cons 10 rfl | apply SubR.cons 11 rfl | apply SubR.cons 12 rfl | apply SubR.cons 13 rfl | apply SubR.cons 14 rfl | apply SubR.cons 15 rfl)) s)
    · obtain ⟨P2, ⟨u, e⟩, ⟨u2, e2⟩⟩ := y
      replace hy : Sat1 P2 author (i + 1) := hy
      dsimp only
      have hPl2 := hy.len
      have hwl2 := whoOf_len P2
      have hhl2 := howOf_len P2
      (repeat (first | refine GK.ro ?_ | (refine GK.box ?_; intro bl) | (refine GK.mkMap ?_; intro bm) | (refine GK.build0 tb ?_; intro bs)))
      refine GK.weak (fr' := [(1, str author), (5, .pointer (some ⟨b, 0, none⟩)), (44, .slice (some ⟨b1, o1, none⟩) l.length c), (45, .int .i64 (l.length : Int)), (46, .int .i64 (i : Int)), (8, .slice u P2.length e), (9, .slice u2 P2.length e2), (140, .int .i64 (P2.length : Int)), (16, .slice none 0 0), (17, .slice none 0 0), (141, .int .i64 ((0 : Nat) : Int))]) (Γ' := [board b [shV author P2], row (.slice u P2.length e) 9 1 P2.length (strs (whoOf P2)), row (.slice u2 P2.length e2) 4 1 P2.length (bools (howOf P2)), poolOf H']) (by repeat (first | exact trivial | refine ⟨rfl, ?_⟩)) (fun _ s => Sat.sub (by repeat (first | exact SubR.nil | apply SubR.cons 0 rfl | apply SubR.cons 1 rfl | apply SubR.cons 2 rfl | apply SubR.cons 3 rfl | apply SubR.cons 4 rfl | apply SubR.cons 5 rfl | apply SubR.cons 6 rfl | apply SubR.cons 7 rfl | apply SubR.cons 8 rfl | apply SubR.cons 9 rfl | apply SubR.cons 10 rfl | apply SubR.cons 11 rfl | apply SubR.cons 12 rfl | apply SubR.cons 13 rfl | apply SubR.cons 14 rfl | apply SubR.cons 15 rfl)) s)
        (G.loopN (X := Nat × Hp × Value × Value) (fun (j, _, _, _) => P2.length - j) (fun (j, _, yv, nv) => [(1, str author), (5, .pointer (some ⟨b, 0, none⟩)), (44, .slice (some ⟨b1, o1, none⟩) l.length c), (45, .int .i64 (l.length : Int)), (46, .int .i64 (i : Int)), (8, .slice u P2.length e), (9, .slice u2 P2.length e2), (140, .int .i64 (P2.length : Int)), (16, yv), (17, nv), (141, .int .i64 (j : Int))]) (fun (_, H2, _, _) => [board b [shV author P2], row (.slice u P2.length e) 9 1 P2.length (strs (whoOf P2)), row (.slice u2 P2.length e2) 4 1 P2.length (bools (howOf P2)), poolOf H2])
        (fun (j, H2, yv, nv) => j ≤ P2.length ∧ le H' H2 ∧ rs H2 yv (rises (side true (P2.take j))).length 1 (strs (rises (side true (P2.take j)))) ∧ rs H2 nv (rises (side false (P2.take j))).length 1 (strs (rises (side false (P2.take j))))) (fun z hz r2 hr2 => ?_) (0, H', .slice none 0 0, .slice none 0 0)
        ⟨Nat.zero_le _, le.refl _, by rw [rises0, strs_nil]; exact rs.nil, by rw [rises0, strs_nil]; exact rs.nil⟩)
      obtain ⟨j, H2, yv, nv⟩ := z
      obtain ⟨hj, le2, hy1, hn1⟩ := hz
      dsimp only at hr2
      have hby : ∀ w, (rises (side w (P2.take j))).length ≤ P2.length := fun w => by
        rw [rises_len]
        have h1 := uniq_len (side w (P2.take j))
        have h2 := side_len w (P2.take j)
        rw [List.length_take] at h2; omega
      have hby1 := hby true
      have hby2 := hby false
      (repeat (first | refine GK.ro ?_ | (refine GK.box ?_; intro bl) | (refine GK.mkMap ?_; intro bm) | (refine GK.build0 tb ?_; intro bs)))
      (first | refine G.condP rfl (fun hb => ?_) (fun hb => ?_) | refine G.condN rfl (fun hb => ?_) (fun hb => ?_) | refine G.cond rfl (fun hb => ?_) (fun hb => ?_))
      · obtain ⟨⟨u0, b0⟩, hu0⟩ : ∃ y, P2[j]? = some y := ⟨_, List.getElem?_eq_getElem (by omega)⟩
        have hlt2 : j < P2.length := by omega
        clear hb
        obtain ⟨hw1, hw2⟩ := who_get hu0
        have sd1 := side_take true hu0
        have sd2 := side_take false hu0
        refine GK.rowPtr 1 rfl (by omega) fun b3 hp => ?_
        subst hp
        refine GK.rowPtr 2 rfl (by omega) fun b4 hp2 => ?_
        subst hp2
        have kw : (strs (whoOf P2))[0 + (j : Int).toNat * 1]? = some (str u0) := by rw [show 0 + (j : Int).toNat * 1 = j by omega]; exact strs_get hw1
        have kh : (bools (howOf P2))[0 + (j : Int).toNat * 1]? = some (.bool b0) := by rw [show 0 + (j : Int).toNat * 1 = j by omega]; exact bools_get hw2
        cases b0 with
        | true =>
          rw [if_pos rfl] at sd1
          rw [if_neg (by decide), List.append_nil] at sd2
          (repeat (first | refine GK.ro ?_ | (refine GK.box ?_; intro bl) | (refine GK.mkMap ?_; intro bm) | (refine GK.build0 tb ?_; intro bs)))
          refine GL.cons ?_; refine GO.callA (fun hF' hle hH => with_ok (s := u0) hy1 (by omega)) (by first | exact Wt.none | exact Wt.some rfl rfl (by first | exact rfl | decide +kernel)) (by kernel_rfl) rfl rfl (by repeat (first | exact SubR.nil | apply SubR.cons 0 rfl | apply SubR.cons 1 rfl | apply SubR.cons 2 rfl | apply SubR.cons 3 rfl | apply SubR.cons 4 rfl | apply SubR.cons 5 rfl | apply SubR.cons 6 rfl | apply SubR.cons 7 rfl | apply SubR.cons 8 rfl | apply SubR.cons 9 rfl | apply SubR.cons 10 rfl | apply SubR.cons 11 rfl | apply SubR.cons 12 rfl | apply SubR.cons 13 rfl | apply SubR.cons 14 rfl | apply SubR.cons 15 rfl)) ?_
          rintro v2 Γ' ⟨H3, le3, hrs2, rfl⟩
          (repeat (first | refine GK.ro ?_ | (refine GK.box ?_; intro bl) | (refine GK.mkMap ?_; intro bm) | (refine GK.build0 tb ?_; intro bs)))
          (refine GQ.againN ((j + 1, H3, v2, nv)) ?_ ?_ ?_ ?_; rotate_left; (first | omega | (dsimp only; omega)); exact (by repeat (first | exact trivial | refine ⟨rfl, ?_⟩)); exact (fun _ s => Sat.sub (by repeat (first | exact SubR.nil | apply SubR.cons 0 rfl | apply SubR.cons 1 rfl | apply SubR.cons 2 rfl | apply SubR.cons 3 rfl | apply SubR.cons 4 rfl | apply SubR.cons 5 rfl | apply SubR.cons 6 rfl | apply SubR.cons 7 rfl | apply SubR.cons 8 rfl | apply SubR.cons 9 rfl | apply SubR.cons 10 rfl | apply SubR.cons 11 rfl | apply SubR.cons 12 rfl | apply SubR.cons 13 rfl | apply SubR.cons 14 rfl | apply SubR.cons 15 rfl)) s))
          refine ⟨by omega, le2.trans le3, ?_, ?_⟩
          · rw [sd1, rises_snoc]; exact hrs2
          · rw [sd2]; exact hn1.mono le3
        | false =>
          rw [if_neg (by decide), List.append_nil] at sd1
          rw [if_pos rfl] at sd2
          (repeat (first | refine GK.ro ?_ | (refine GK.box ?_; intro bl) | (refine GK.mkMap ?_; intro bm) | (refine GK.build0 tb ?_; intro bs)))
          refine GL.cons ?_; refine GO.callA (fun hF' hle hH => with_ok (s := u0) hn1 (by omega)) (by first | exact Wt.none | exact Wt.some rfl rfl (by first | exact rfl | decide +kernel)) (by kernel_rfl) rfl rfl (by repeat (first | exact SubR.nil | apply SubR.cons 0 rfl | apply SubR.cons 1 rfl | apply SubR.cons 2 rfl | apply SubR.cons 3 rfl | apply SubR.cons 4 rfl | apply SubR.cons 5 rfl | apply SubR.cons 6 rfl | apply SubR.cons 7 rfl | apply SubR.cons 8 rfl | apply SubR.cons 9 rfl | apply SubR.cons 10 rfl | apply SubR.cons 11 rfl | apply SubR.cons 12 rfl | apply SubR.cons 13 rfl | apply SubR.cons 14 rfl | apply SubR.cons 15 rfl)) ?_
          rintro v2 Γ' ⟨H3, le3, hrs2, rfl⟩
          (repeat (first | refine GK.ro ?_ | (refine GK.box ?_; intro bl) | (refine GK.mkMap ?_; intro bm) | (refine GK.build0 tb ?_; intro bs)))
          (refine GQ.againN ((j + 1, H3, yv, v2)) ?_ ?_ ?_ ?_; rotate_left; (first | omega | (dsimp only; omega)); exact (by repeat (first | exact trivial | refine ⟨rfl, ?_⟩)); exact (fun _ s => Sat.sub (by repeat (first | exact SubR.nil | apply SubR.cons 0 rfl | apply SubR.cons 1 rfl | apply SubR.cons 2 rfl | apply SubR.cons 3 rfl | apply SubR.cons 4 rfl | apply SubR.cons 5 rfl | apply SubR.cons 6 rfl | apply SubR.cons 7 rfl | apply SubR.cons 8 rfl | apply SubR.cons 9 rfl | apply SubR.cons 10 rfl | apply SubR.cons 11 rfl | apply SubR.cons 12 rfl | apply SubR.cons 13 rfl | apply SubR.cons 14 rfl | apply SubR.cons 15 rfl)) s))
          refine ⟨by omega, le2.trans le3, ?_, ?_⟩
          · rw [sd1]; exact hy1.mono le3
          · rw [sd2, rises_snoc]; exact hrs2
      · have hjl : j = P2.length := by omega
        subst hjl
        rw [List.take_length] at hy1 hn1 hby1 hby2
        (repeat (first | refine GK.ro ?_ | (refine GK.box ?_; intro bl) | (refine GK.mkMap ?_; intro bm) | (refine GK.build0 tb ?_; intro bs)))
        refine GL.cons ?_; refine GO.callA (fun hF' hle hH => proposal_ok (L := [shV author P2]) (id := 1) (Nat.le_of_ble_eq_true rfl) (fun s hs => by rw [List.mem_singleton.1 hs, shV_votes, shV_talk, votesOf_len]; exact ⟨by omega, Nat.zero_le _⟩)) (by first | exact Wt.none | exact Wt.some rfl rfl (by first | exact rfl | decide +kernel)) (by kernel_rfl) rfl rfl (by repeat (first | exact SubR.nil | apply SubR.cons 0 rfl | apply SubR.cons 1 rfl | apply SubR.cons 2 rfl | apply SubR.cons 3 rfl | apply SubR.cons 4 rfl | apply SubR.cons 5 rfl | apply SubR.cons 6 rfl | apply SubR.cons 7 rfl | apply SubR.cons 8 rfl | apply SubR.cons 9 rfl | apply SubR.cons 10 rfl | apply SubR.cons 11 rfl | apply SubR.cons 12 rfl | apply SubR.cons 13 rfl | apply SubR.cons 14 rfl | apply SubR.cons 15 rfl)) ?_
        rintro v Γ' ⟨ex, hT, rfl⟩
        unfold Told at hT
        rw [atS1] at hT
        obtain ⟨pv, mv, tv, rfl, rfl⟩ := hT
        rw [shV_pr, shV_votes, show ofM 1 (votesOf P2) = rises (side true P2) from ofM_side true hy.nd, show ofM 2 (votesOf P2) = rises (side false P2) from ofM_side false hy.nd]
        refine GK.pure (fun w s => (row_len (s.perm (.swap _ _ _))).1) ?_
        rintro ⟨pp, pc, rfl⟩
        refine GK.pure (fun w s => (row_len ((s.drop).drop)).1) ?_
        rintro ⟨np, nc, rfl⟩
        refine GK.pure (fun w s => (row_len (((s.drop).drop).drop)).1) ?_
        rintro ⟨tp, tc, rfl⟩
        refine GK.heap (Γ' := [poolOf H2, row (.slice pp (rises (side true P2)).length pc) 9 1 (rises (side true P2)).length (strs (rises (side true P2))), row (.slice np (rises (side false P2)).length nc) 9 1 (rises (side false P2)).length (strs (rises (side false P2))), board b [shV author P2], row (.slice u P2.length e) 9 1 P2.length (strs (whoOf P2)), row (.slice u2 P2.length e2) 4 1 P2.length (bools (howOf P2))]) (fun _ s => Sat.sub (by repeat (first | exact SubR.nil | apply SubR.cons 0 rfl | apply SubR.cons 1 rfl | apply SubR.cons 2 rfl | apply SubR.cons 3 rfl | apply SubR.cons 4 rfl | apply SubR.cons 5 rfl | apply SubR.cons 6 rfl | apply SubR.cons 7 rfl | apply SubR.cons 8 rfl | apply SubR.cons 9 rfl | apply SubR.cons 10 rfl | apply SubR.cons 11 rfl | apply SubR.cons 12 rfl | apply SubR.cons 13 rfl | apply SubR.cons 14 rfl | apply SubR.cons 15 rfl)) s) ?_
        refine GK.absorb fun H3 k3' l3 a3 m3' => ?_
        refine GK.absorb fun H4 k4' l4 a4 m4' => ?_
        have gy := (row_in a3 m3').mono l4
        have gn := row_in a4 m4'
        have gy2 := hy1.mono (l3.trans l4)
        have gn2 := hn1.mono (l3.trans l4)
        have hz : zh.length = 32 := rfl
        have f0 := propC_len (p := ⟨1, author, main, zh, true⟩) (y := .slice pp (rises (side true P2)).length pc) (n := .slice np (rises (side false P2)).length nc) (t := .slice tp (shV author P2).talk.length tc) hz
        have f1 := propC_one (p := ⟨1, author, main, zh, true⟩) (y := .slice pp (rises (side true P2)).length pc) (n := .slice np (rises (side false P2)).length nc) (t := .slice tp (shV author P2).talk.length tc) rfl rfl rfl
        have f2 : (propC ⟨1, author, main, zh, true⟩ (.slice pp (rises (side true P2)).length pc) (.slice np (rises (side false P2)).length nc) (.slice tp (shV author P2).talk.length tc))[0 + 36]? = some (.slice pp (rises (side true P2)).length pc) := propC_y hz
        have f3 : (propC ⟨1, author, main, zh, true⟩ (.slice pp (rises (side true P2)).length pc) (.slice np (rises (side false P2)).length nc) (.slice tp (shV author P2).talk.length tc))[0 + 37]? = some (.slice np (rises (side false P2)).length nc) := propC_n hz
        (repeat (first | refine GK.ro ?_ | (refine GK.box ?_; intro bl) | (refine GK.mkMap ?_; intro bm) | (refine GK.build0 tb ?_; intro bs) | (refine GL.cons ?_; refine GO.alloc (by first | exact Wt.none | exact Wt.some rfl rfl (by first | exact rfl | decide +kernel)) (by exact rfl) ?_; intro ba) | (refine GL.cons ?_; refine Gt.storeAny tb 0 (by first | exact Wt.none | exact Wt.some rfl rfl (by first | exact rfl | decide +kernel)) (by exact rfl) (by exact rfl) (by exact rfl) (by assumption) (by assumption) (by exact rfl) (by first | exact rfl | assumption) ?_) | (refine GL.cons ?_; refine Gt.storeAny tb 1 (by first | exact Wt.none | exact Wt.some rfl rfl (by first | exact rfl | decide +kernel)) (by exact rfl) (by exact rfl) (by exact rfl) (by assumption) (by assumption) (by exact rfl) (by first | exact rfl | assumption) ?_) | (refine GL.cons ?_; refine Gt.storeAny tb 2 (by first | exact Wt.none | exact Wt.some rfl rfl (by first | exact rfl | decide +kernel)) (by exact rfl) (by exact rfl) (by exact rfl) (by assumption) (by assumption) (by exact rfl) (by first | exact rfl | assumption) ?_) | (refine GL.cons ?_; refine Gt.storeAny tb 3 (by first | exact Wt.none | exact Wt.some rfl rfl (by first | exact rfl | decide +kernel)) (by exact rfl) (by exact rfl) (by exact rfl) (by assumption) (by assumption) (by exact rfl) (by first | exact rfl | assumption) ?_) | (refine GL.cons ?_; refine Gt.storeAny tb 4 (by first | exact Wt.none | exact Wt.some rfl rfl (by first | exact rfl | decide +kernel)) (by exact rfl) (by exact rfl) (by exact rfl) (by assumption) (by assumption) (by exact rfl) (by first | exact rfl | assumption) ?_) | (refine GL.cons ?_; refine Gt.storeAny tb 5 (by first | exact Wt.none | exact Wt.some rfl rfl (by first | exact rfl | decide +kernel)) (by exact rfl) (by exact rfl) (by exact rfl) (by assumption) (by assumption) (by exact rfl) (by first | exact rfl | assumption) ?_) | (refine GL.cons ?_; refine Gt.storeAny tb 6 (by first | exact Wt.none | exact Wt.some rfl rfl (by first | exact rfl | decide +kernel)) (by exact rfl) (by exact rfl) (by exact rfl) (by assumption) (by assumption) (by exact rfl) (by first | exact rfl | assumption) ?_) | (refine GL.cons ?_; refine Gt.storeAny tb 7 (by first | exact Wt.none | exact Wt.some rfl rfl (by first | exact rfl | decide +kernel)) (by exact rfl) (by exact rfl) (by exact rfl) (by assumption) (by assumption) (by exact rfl) (by first | exact rfl | assumption) ?_) | (refine GL.cons ?_; refine Gt.storeAny tb 8 (by first | exact Wt.none | exact Wt.some rfl rfl (by first | exact rfl | decide +kernel)) (by exact rfl) (by exact rfl) (by exact rfl) (by assumption) (by assumption) (by exact rfl) (by first | exact rfl | assumption) ?_) | (refine GL.cons ?_; refine Gt.storeAny tb 9 (by first | exact Wt.none | exact Wt.some rfl rfl (by first | exact rfl | decide +kernel)) (by exact rfl) (by exact rfl) (by exact rfl) (by assumption) (by assumption) (by exact rfl) (by first | exact rfl | assumption) ?_)))
        refine GL.cons ?_; refine GO.callA (fun hF' hle hH => texts_ok gy gy2 (by omega) (by omega)) (by first | exact Wt.none | exact Wt.some rfl rfl (by first | exact rfl | decide +kernel)) (by kernel_rfl) rfl rfl (by repeat (first | exact SubR.nil | apply SubR.cons 0 rfl | apply SubR.cons 1 rfl | apply SubR.cons 2 rfl | apply SubR.cons 3 rfl | apply SubR.cons 4 rfl | apply SubR.cons 5 rfl | apply SubR.cons 6 rfl | apply SubR.cons 7 rfl | apply SubR.cons 8 rfl | apply SubR.cons 9 rfl | apply SubR.cons 10 rfl | apply SubR.cons 11 rfl | apply SubR.cons 12 rfl | apply SubR.cons 13 rfl | apply SubR.cons 14 rfl | apply SubR.cons 15 rfl)) ?_
        rw [decide_eq_true (rfl : rises (side true P2) = rises (side true P2))]
        rintro v Γ' ⟨rfl, rfl⟩
        (repeat (first | refine GK.ro ?_ | (refine GK.box ?_; intro bl) | (refine GK.mkMap ?_; intro bm) | (refine GK.build0 tb ?_; intro bs)))
        refine GL.cons ?_; refine GO.callA (fun hF' hle hH => texts_ok gn gn2 (by omega) (by omega)) (by first | exact Wt.none | exact Wt.some rfl rfl (by first | exact rfl | decide +kernel)) (by kernel_rfl) rfl rfl (by repeat (first | exact SubR.nil | apply SubR.cons 0 rfl | apply SubR.cons 1 rfl | apply SubR.cons 2 rfl | apply SubR.cons 3 rfl | apply SubR.cons 4 rfl | apply SubR.cons 5 rfl | apply SubR.cons 6 rfl | apply SubR.cons 7 rfl | apply SubR.cons 8 rfl | apply SubR.cons 9 rfl | apply SubR.cons 10 rfl | apply SubR.cons 11 rfl | apply SubR.cons 12 rfl | apply SubR.cons 13 rfl | apply SubR.cons 14 rfl | apply SubR.cons 15 rfl)) ?_
        rw [decide_eq_true (rfl : rises (side false P2) = rises (side false P2))]
        rintro v Γ' ⟨rfl, rfl⟩
        (repeat (first | refine GK.ro ?_ | (refine GK.box ?_; intro bl) | (refine GK.mkMap ?_; intro bm) | (refine GK.build0 tb ?_; intro bs)))
        (refine GQ.againN ((i + 1, P2, H4, (u, e), (u2, e2))) ?_ ?_ ?_ ?_; rotate_left; (first | omega | (dsimp only; omega)); exact (by repeat (first | exact trivial | refine ⟨rfl, ?_⟩)); exact (fun _ s => Sat.sub (by repeat (first | exact SubR.nil | apply SubR.cons 0 rfl | apply SubR.cons 1 rfl | apply SubR.cons 2 rfl | apply SubR.cons 3 rfl | apply SubR.cons 4 rfl | apply SubR.cons 5 rfl | apply SubR.cons 6 rfl | apply SubR.cons 7 rfl | apply SubR.cons 8 rfl | apply SubR.cons 9 rfl | apply SubR.cons 10 rfl | apply SubR.cons 11 rfl | apply SubR.cons 12 rfl | apply SubR.cons 13 rfl | apply SubR.cons 14 rfl | apply SubR.cons 15 rfl)) s))
        exact ⟨by omega, hy, ((le1.trans le2).trans l3).trans l4⟩
  · (repeat (first | refine GK.ro ?_ | (refine GK.box ?_; intro bl) | (refine GK.mkMap ?_; intro bm) | (refine GK.build0 tb ?_; intro bs)))
    refine GL.cons ?_; refine GO.callA (fun hF' hle hH => lives_ok) (by first | exact Wt.none | exact Wt.some rfl rfl (by first | exact rfl | decide +kernel)) (by kernel_rfl) rfl rfl (by repeat (first | exact SubR.nil | apply SubR.cons 0 rfl | apply SubR.cons 1 rfl | apply SubR.cons 2 rfl | apply SubR.cons 3 rfl | apply SubR.cons 4 rfl | apply SubR.cons 5 rfl | apply SubR.cons 6 rfl | apply SubR.cons 7 rfl | apply SubR.cons 8 rfl | apply SubR.cons 9 rfl | apply SubR.cons 10 rfl | apply SubR.cons 11 rfl | apply SubR.cons 12 rfl | apply SubR.cons 13 rfl | apply SubR.cons 14 rfl | apply SubR.cons 15 rfl)) ?_
    rintro v Γ' ⟨rfl, rfl⟩
    (repeat (first | refine GK.ro ?_ | (refine GK.box ?_; intro bl) | (refine GK.mkMap ?_; intro bm) | (refine GK.build0 tb ?_; intro bs)))
    exact GQ.fin1 rfl (Rv.tmp rfl) (fun _ s => Sat.sub (by repeat (first | exact SubR.nil | apply SubR.cons 0 rfl | apply SubR.cons 1 rfl | apply SubR.cons 2 rfl | apply SubR.cons 3 rfl | apply SubR.cons 4 rfl | apply SubR.cons 5 rfl | apply SubR.cons 6 rfl | apply SubR.cons 7 rfl | apply SubR.cons 8 rfl | apply SubR.cons 9 rfl | apply SubR.cons 10 rfl | apply SubR.cons 11 rfl | apply SubR.cons 12 rfl | apply SubR.cons 13 rfl | apply SubR.cons 14 rfl | apply SubR.cons 15 rfl)) s) ⟨rfl, H', [], le1, rfl⟩
theorem votes_law {W : World} {l : List Act1} {v : Value} {author : By} (h : rs (mem W) v l.length 37 (acts l)) (hk : ∀ x ∈ l, x.Ok) (n1 : l.length ≤ 140737488355328) (hau : author.length ≤ 140737488355328) :
    FnOk Go.Proofs.Try.prog 5 [v, str author] [poolOf (mem W)] emp (LawR W) := votesLaw_ok h hk n1 hau
end Go.Re
