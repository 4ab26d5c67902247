/- The evaluator, part P: append, copy. -/
import Derived.Test.YtppdclebbcmcaaaEvO
set_option linter.unusedSimpArgs false
set_option linter.unusedVariables false
namespace Go.Ev
open Go.Sl
noncomputable section
variable {P : Program} {T : Tabs P} {c : Cn} {ρ : Env} {fr : Tr AV} {ds : List AD} {M : Mem} {nx : Nat} {a : Act} {w : World}

/-- Fresh: these elements, and those behind them. -/
def freshK (q : TRow) (e : TypeId) (nx need : Nat) (M : Mem) (fz : Nat) (olds news : List AV) (k : AV → Mem → Nat → Bool) : Bool :=
  both (Nat.ble (Nat.mul need q.bytes) 140737488355328) (both (Nat.ble need 9223372036854775807) (appL olds news fun cells => newK M nx (.row e q.size cells fz) (k (.sl nx 0 need need true))))
/-- The cells of a slice's elements, and of what stands behind them. -/
def appendK (P : Program) (T : Tabs P) (fr : Tr AV) (M : Mem) (nx : Nat) (t tx : TypeId) (x y : Operand) (k : AV → Mem → Nat → Bool) : Bool := argK T fr x fun v => argK T fr y fun u => Option.rec false (fun r => match r with
  | ⟨.sl e, _, _⟩ => Option.rec false (fun q => Option.rec false (fun r' => both (match r'.td with | .sl _ => true | .str => true | _ => false) (zeroK P e fun z => lenL (cellsA z) 0 fun zn => both (Nat.beq zn q.size) (srcK M q.size u fun m news => match v with
    | .nils => Nat.rec (k .nils M nx) (fun _ _ => freshK q e nx m M 0 [] news k) m
    | .em i o o' sb => Nat.rec (k (.em i o o' sb) M nx) (fun _ _ => Bool.rec (freshK q e nx m M 0 [] news k) (Option.rec false (fun ck => match ck with
      | .row e' s' l fz => both (Nat.beq e' e) (both (Nat.beq s' q.size) (lenL l 0 fun n => both (Nat.beq n o') (both (Nat.ble fz o') (M.del i fun M1 => freshK q e nx m M1 0 [] news k))))
      | _ => false) (M.get i)) sb) m
    | .sl i o n c sb => both (Nat.ble n c) (Nat.rec (k (.sl i o n c sb) M nx) (fun _ _ => forceN (Nat.add n m) fun need => Option.rec false (fun ck => match ck with
      | .row e' s' l fz => both (Nat.beq e' e) (both (Nat.beq s' q.size) (Bool.rec
          (Bool.rec (splitL l o fun _ B => splitL B (Nat.mul n q.size) fun olds _ => both (allL one olds) (freshK q e nx need M 0 olds news k))
            (both (Nat.beq n c) (lenL l 0 fun len => both (Nat.beq len (Nat.add o (Nat.mul n q.size))) (both (Nat.ble fz len) (splitL l o fun _ olds => M.del i fun M1 => freshK q e nx need M1 (Nat.mul n q.size) olds news k)))) sb)
          (forceN (Nat.add o (Nat.mul n q.size)) fun at' => both (Nat.ble fz at') (splitL l at' fun A B => splitL B (Nat.mul m q.size) fun _ C => appL news C fun D => appL A D fun l' => turnK M nx i (.row e' s' l' fz) (k (.sl i o need c sb))))
          (Nat.ble need c)))
      | .ro _ l => Bool.rec (Bool.rec (splitL l o fun _ B => splitL B (Nat.mul n q.size) fun olds _ => both (allL one olds) (freshK q e nx need M 0 olds news k)) false sb) false (Nat.ble need c)
      | _ => false) (M.get i)) m)
    | _ => false))) (T.T tx)) (T.T e)
  | _ => false) (T.T t)
/-- A fresh row, in the world where a new block stands. -/
theorem freshK_new {q : TRow} {e : TypeId} {need fz : Nat} {olds news : List AV} {k : AV → Mem → Nat → Bool} (h : freshK q e nx need M fz olds news k = true) (s : Rel T c ρ fr ds M nx a w) {ov nv : List Value} (ho : RL ρ olds ov) (hn : RL ρ news nv) (ho1 : allL one olds = true) (hn1 : allL one news = true) {cap : Nat} (hcap : need ≤ cap) {tail : List Value} (ht : tail.length = (cap - need) * q.size) {w' : World} (hw' : w' = w.drew.alloc (.cells ⟨ov ++ nv ++ tail⟩ e)) :
    ∃ M' ρ', Ext ρ ρ' ∧ ren ρ' (.sl nx 0 need need true) = some (.slice (some ⟨w.heap.size, 0, none⟩) need cap) ∧ k (.sl nx 0 need need true) M' ρ'.length = true ∧ Rep ρ' M' c.hF w' ∧ Same w w' := by
  obtain ⟨_, g⟩ := both_eq.1 h
  obtain ⟨_, g⟩ := both_eq.1 g
  rw [appL_eq] at g
  have hall : allL one (olds ++ news) = true := allL_mk fun x hx => by
    rcases List.mem_append.1 hx with hx | hx
    · exact allL_spec ho1 x hx
    · exact allL_spec hn1 x hx
  obtain ⟨pre, vs, ex, fzr, q1, q2, q3, q4, q5, q6⟩ := row_new (κ := cap - need) (t := e) (s := q.size) (b := w.heap.size) (ho.append hn) hall (ex := tail) (by rw [ht]; exact Nat.le_refl _)
  obtain ⟨M', k1, k2, k3⟩ := newK_spec (κ := cap - need) (o := .cells ⟨ov ++ nv ++ tail⟩ e) g s (.inr hw') rfl ⟨pre, vs, ex, fzr, q1, q2, q3, q4, by unfold frz at q5 ⊢; omega, q6⟩
  refine ⟨M', _, Ext.one _ _, ?_, k1, k2, k3⟩
  rw [← s.nx, ren_newSl]; simp only [cond_true]; rw [show need + (cap - need) = cap by omega]
theorem freshK_bounds {q : TRow} {e : TypeId} {need fz : Nat} {olds news : List AV} {k : AV → Mem → Nat → Bool} (h : freshK q e nx need M fz olds news k = true) : need * q.bytes ≤ 140737488355328 ∧ need ≤ 9223372036854775807 := by
  obtain ⟨h1, g⟩ := both_eq.1 h
  obtain ⟨h2, g⟩ := both_eq.1 g
  exact ⟨Nat.le_of_ble_eq_true h1, Nat.le_of_ble_eq_true h2⟩
/-- The block of a row goes over to a new number. -/
theorem freshK_move {q : TRow} {e i : Nat} {need o fz0 : Nat} {l olds news : List AV} {k : AV → Mem → Nat → Bool} {M1 : Mem} {fz : Nat} (h : freshK q e nx need M1 fz olds news k = true) (s : Rel T c ρ fr ds M nx a w) (hi : M.get i = some (.row e q.size l fz0)) (hd : ∀ m, M1.get m = if m = i then none else M.get m)
    {nv : List Value} {en : Nat × Nat × Nat} (hen : ρ[i]? = some en) (hol : olds = (l.drop o)) (hn : RL ρ news nv) (hn1 : allL one news = true) (hlen : nv.length = (need * q.size) - olds.length) (hle : olds.length ≤ need * q.size) (hol2 : o ≤ l.length) (hfz : fz0 ≤ o + olds.length ∧ olds.length ≤ fz)
    {cap : Nat} (hcap : need ≤ cap) (hκ : (cap * q.size) ≤ olds.length + en.2.2 * q.size) :
    ∃ w' M' ρ', (storeCells ⟨en.1, en.2.1 + l.length, none⟩ nv).run P w = .ok () w' ∧ Ext ρ ρ' ∧ ren ρ' (.sl nx 0 need need true) = some (.slice (some ⟨en.1, en.2.1 + o, none⟩) need cap) ∧ k (.sl nx 0 need need true) M' ρ'.length = true ∧ Rep ρ' M' c.hF w' ∧ Same w w' := by
  obtain ⟨_, g⟩ := both_eq.1 h
  obtain ⟨_, g⟩ := both_eq.1 g
  rw [appL_eq] at g
  obtain ⟨e0, he0, ⟨pre, vs, ex, fzr, a1, a2, a3, a4, a5, a6⟩, hF0⟩ := s.rep.own _ _ hi
  rw [hen] at he0; cases he0
  replace a5 := a5.resolve_left (by rw [hol] at hfz; simp at hfz; omega)
  have hvl := a1.length
  have hlo : olds.length = l.length - o := by rw [hol]; simp
  have hroom : nv.length ≤ ex.length := by
    have : need * q.size ≤ cap * q.size := Nat.mul_le_mul_right _ hcap
    omega
  obtain ⟨w', r, r1, r2, r3⟩ := run_store_list (P := P) (o := en.2.1 + l.length) nv 0 (pre ++ (vs ++ ex)) w a2 (by simp; omega) (frz_free a5 (by omega) (by simp; omega)) (one_all hn hn1)
  have hnew : splice (pre ++ (vs ++ ex)) (en.2.1 + l.length + 0) nv = (pre ++ vs.take o) ++ ((vs.drop o ++ nv) ++ ex.drop nv.length) := by
    simp only [splice, Nat.add_zero]
    have e1 : pre ++ (vs ++ ex) = (pre ++ vs) ++ ex := by simp
    have e2 : en.2.1 + l.length = (pre ++ vs).length := by simp [a3, hvl]
    rw [e1, e2, List.take_left, ← List.drop_drop, List.drop_left]
    simp only [List.append_assoc]
    congr 1
    rw [← List.append_assoc (vs.take o), List.take_append_drop]
  rw [hnew] at r1
  obtain ⟨M', h1, h2⟩ := Tr.set_spec g
  rw [forceN_eq] at h2
  rw [← s.nx] at h1
  have hdrop := s.rep.drop (i := i) hd
  have hrep := hdrop.put (w' := w') (e := (en.1, en.2.1 + o, cap - need)) h1 (fun j cj ej hj hej hoj q' => by
      rw [hd] at hj
      split at hj
      · cases hj
      · rename_i hne
        exact hne (s.rep.inj j i cj _ ej en hj hi hoj rfl hej hen q')) (hF0 rfl) (fun b ob hb => by
      unfold but at hb
      split at hb
      · cases hb
      · rename_i hne; show w'.heap[b]? = some ob; rw [r2 b hne]; exact hb) (by
      rw [r1]
      refine ⟨pre ++ vs.take o, vs.drop o ++ nv, ex.drop nv.length, fzr, ?_, rfl, ?_, ?_, ?_, ?_⟩
      · rw [hol]; exact ((a1.drop o).append hn).ext (Ext.one _ _)
      · simp; omega
      · simp only [List.length_drop]
        show (cap - need) * q.size ≤ _
        rw [Nat.sub_mul]; omega
      · refine .inr ?_
        unfold frz at a5 ⊢
        simp only [List.length_append, List.length_take, List.length_drop] at a5 ⊢
        show _ ∨ fzr.2 ≤ en.2.1 + o + fz ∨ _
        omega
      · refine allL_mk fun x hx => ?_
        rcases List.mem_append.1 hx with hx | hx
        · rw [hol] at hx; exact allL_spec a6 x (List.mem_of_mem_drop hx)
        · exact allL_spec hn1 x hx)
  refine ⟨w', M', _, r, Ext.one _ _, ?_, by rw [Env.length_app, s.nx]; exact h2, hrep, r3⟩
  rw [← s.nx]
  simp [ren]
  omega

section runs
variable {t tx e : TypeId} {tt : TypeId} {i : TypeInfo} {z : Value}
theorem run_app0 {p : Option Addr} {n cc : Nat} {x : Value} (ht : P.underlying t = some (.slice e)) (htx : appT P tx) (hi : P.info? e = some i) (hlen : (Builtin.lenOf x).run P w = .ok 0 w) (hcells : (Builtin.firstCells i.size 0 x).run P w = .ok ⟨[]⟩ w) (h : n ≤ cc) :
    (Builtin.append_ #[t, tx] tt #[.slice p n cc, x]).run P w = .ok (.slice p n cc) w := by
  have := run_append_stays (p := p) (n := n) (c := cc) (tt := tt) ht htx hi hlen hcells (by omega)
  rw [this]
  cases p <;> simp [storeCells]
theorem run_appIn {b o n cc m : Nat} {x : Value} {us : List Value} {w' : World} (ht : P.underlying t = some (.slice e)) (htx : appT P tx) (hi : P.info? e = some i) (hlen : (Builtin.lenOf x).run P w = .ok m w) (hcells : (Builtin.firstCells i.size m x).run P w = .ok ⟨us⟩ w) (h : n + m ≤ cc)
    (hst : (storeCells ⟨b, o + n * i.size, none⟩ us).run P w = .ok () w') : (Builtin.append_ #[t, tx] tt #[.slice (some ⟨b, o, none⟩) n cc, x]).run P w = .ok (.slice (some ⟨b, o, none⟩) (n + m) cc) w' := by
  have := run_append_stays (p := some ⟨b, o, none⟩) (n := n) (c := cc) (tt := tt) ht htx hi hlen hcells h
  rw [this]
  simp only [Addr.add_mid, hst, Result.andThen_ok]
end runs
theorem tail_len {z : Value} {n sz : Nat} (h : z.cells.size = sz) : (Builtin.zeroCells z.cells n).toList.length = n * sz := by rw [Array.length_toList, size_zeroCells, h]
theorem drew_heap {b : Nat} {o : Obj} (h : w.heap[b]? = some o) : w.drew.heap[b]? = some o := h
theorem appendK_spec {t tx : TypeId} {x y : Operand} {k : AV → Mem → Nat → Bool} (h : appendK P T fr M nx t tx x y k = true) (s : Rel T c ρ fr ds M nx a w) : Eff P c ρ a w (.call ⟨.builtin .append, #[x, y], #[t, tx]⟩) k := by
  obtain ⟨v, vr, h1, g1⟩ := argK_spec h s
  obtain ⟨u, ur, h2, g2⟩ := argK_spec g1 s
  obtain ⟨⟨d, _, _⟩, h3, g3⟩ := opt_rec g2
  clear h g1 g2
  cases d <;> try (cases g3; done)
  rename_i e
  have ht := (T.okT _ _ h3).td
  obtain ⟨q, h4, g4⟩ := opt_rec g3
  obtain ⟨⟨d', _, _⟩, h5, g5⟩ := opt_rec g4
  obtain ⟨hd', g6⟩ := both_eq.1 g5
  have htx : appT P tx := by
    have hx := (T.okT _ _ h5).td
    cases d' <;> try (cases hd'; done)
    · exact .inr hx
    · exact .inl ⟨_, hx⟩
  obtain ⟨z, h6, g7⟩ := opt_rec g6
  obtain ⟨z', z1, z2, z3⟩ := zeroA_spec h6 ρ
  rw [lenL_eq] at g7
  obtain ⟨c1, g8⟩ := both_eq.1 g7
  clear g3 g4 g5 g6 g7
  have hz := cellsA_spec z2
  have hzs : z'.cells.size = q.size := by rw [← Array.length_toList, hz.length]; exact Nat.eq_of_beq_eq_true c1
  obtain ⟨i, hi, hsz⟩ := Option.map_eq_some_iff.1 (T.okT _ _ h4).size
  obtain ⟨i', hi', hby⟩ := Option.map_eq_some_iff.1 (T.okT _ _ h4).bytes
  rw [hi] at hi'; cases hi'
  have hiz : i.zero = some z' := by unfold zeroV at z1; rw [hi] at z1; exact z1
  obtain ⟨m, news, nv, g9, src⟩ := srcK_spec (P := P) g8 h2.ren s.rep
  clear g8
  have hlen := (src.run w (fun _ _ h => h)).1
  have hcells := (src.run w (fun _ _ h => h)).2
  have hcells' := (src.run w.drew (fun _ _ h => drew_heap h)).2
  rw [← hsz] at hcells hcells'
  have hnl : nv.length = m * q.size := src.len
  have fin : ∀ {v r ρ' M' w'}, Ext ρ ρ' → ren ρ' v = some r → k v M' ρ'.length = true → Rep ρ' M' c.hF w' → Same w w' → (∀ tt, (Builtin.append_ #[t, tx] tt #[vr, ur]).run P w = .ok r w') → Eff P c ρ a w (.call ⟨.builtin .append, #[x, y], #[t, tx]⟩) k :=
    fun {v r ρ' M' w'} q1 q2 q3 q4 q5 q6 => ⟨v, r, ρ', M', w', .value r, q1, q2, q3, q4, q5, .inl rfl, by
      rintro ⟨d, op', ty, pos, af, gg⟩ rfl
      simp [execOp, resolve, invoke, builtin, h1.eval, h2.eval, q6 ty]⟩
  have same0 : ∀ {p n cc}, vr = .slice p n cc → n ≤ cc → m = 0 → k v M nx = true → Eff P c ρ a w (.call ⟨.builtin .append, #[x, y], #[t, tx]⟩) k := fun {p n cc} ev hle hm hk => by
    subst ev hm
    have hn0 : nv = [] := List.length_eq_zero_iff.1 (by simpa using hnl)
    subst hn0
    exact fin (.refl ρ) h1.ren (by rw [s.nx]; exact hk) s.rep (.refl w) fun tt => run_app0 ht htx hi hlen hcells hle
  have grow : ∀ {p n cc need olds ov}, vr = .slice p n cc → need = n + m → ¬ n + m ≤ cc → RL ρ olds ov → allL one olds = true → (Builtin.firstCells i.size n (.slice p n cc)).run P w.drew = .ok ⟨ov⟩ w.drew → freshK q e nx need M 0 olds news k = true → Eff P c ρ a w (.call ⟨.builtin .append, #[x, y], #[t, tx]⟩) k :=
    fun {p n cc need olds ov} ev en hng ho ho1 hold hk => by
      subst ev en
      obtain ⟨b1, b2⟩ := freshK_bounds hk
      have hr : ∀ tt, _ := fun tt => run_append_grows (P := P) (w := w) (tt := tt) (p := p) (n := n) (c := cc) ht htx hi hiz hlen hcells' hold hng b2 (growslice_fits (by omega) (by rw [hby]; exact b1))
      have hge := grownCap_ge w (n + m) cc e
      obtain ⟨M', ρ', q1, q2, q3, q4, q5⟩ := freshK_new hk s ho src.rl ho1 src.ones hge (tail := (Builtin.zeroCells z'.cells (grownCap w (n + m) cc e - (n + m))).toList) (tail_len hzs) rfl
      exact fin q1 q2 q3 q4 q5 hr
  have ols0 : ∀ {p cc}, (Builtin.firstCells i.size 0 (.slice p 0 cc)).run P w.drew = .ok ⟨[]⟩ w.drew := fun {p cc} => by cases p <;> simp [Builtin.firstCells, loadCells, loadCellsFrom]
  cases v <;> try (cases g9; done)
  case nils =>
    obtain rfl : vr = .slice none 0 0 := by simpa [ren] using h1.ren.symm
    cases m with
    | zero => exact same0 rfl (Nat.le_refl _) rfl g9
    | succ m => exact grow rfl (by simp) (by omega) RL.nil rfl ols0 g9
  case em i0 o o' sb =>
    have e1 := h1.ren
    simp only [ren, Option.map_eq_some_iff] at e1
    obtain ⟨en, hen, hvr⟩ := e1
    cases m with
    | zero => exact same0 hvr.symm (Nat.zero_le _) rfl g9
    | succ m =>
      cases sb with
      | false =>
        exact grow hvr.symm (by simp) (by simp) RL.nil rfl ols0 g9
      | true =>
        obtain ⟨ck, q1, g10⟩ := opt_rec (show (Option.rec false (fun ck : Ck => match ck with
          | .row e' s' l fz => both (Nat.beq e' e) (both (Nat.beq s' q.size) (lenL l 0 fun n => both (Nat.beq n o') (both (Nat.ble fz o') (M.del i0 fun M1 => freshK q e nx (m + 1) M1 0 [] news k))))
          | _ => false) (M.get i0) : Bool) = true from g9)
        cases ck <;> try (cases g10; done)
        rename_i e' s' l fz
        obtain ⟨c2, p1⟩ := both_eq.1 g10
        obtain ⟨c3, p2⟩ := both_eq.1 p1
        rw [lenL_eq] at p2
        obtain ⟨c4, p3⟩ := both_eq.1 p2
        obtain ⟨c5, p4⟩ := both_eq.1 p3
        clear g10 p1 p2 p3
        obtain rfl := Nat.eq_of_beq_eq_true c2
        obtain rfl := Nat.eq_of_beq_eq_true c3
        have c4 := Nat.eq_of_beq_eq_true c4
        have c5 := Nat.le_of_ble_eq_true c5
        obtain ⟨M1, hM1, g11⟩ := Tr.del_spec p4
        simp only [cond_true] at hvr
        by_cases hfit : m + 1 ≤ en.2.2
        · have hne : Nat.beq en.2.2 0 = false := Bool.eq_false_iff.2 fun z => by have := Nat.eq_of_beq_eq_true z; omega
          rw [hne] at hvr
          simp only [cond_false] at hvr
          obtain ⟨w', M', ρ', r0, r1, r2, r3, r4, r5⟩ := freshK_move (o := o') (olds := []) (nv := nv) g11 s q1 hM1 hen (by rw [← c4]; simp) src.rl src.ones (by simp [hnl]) (by simp) (by omega) ⟨by simpa using c5, Nat.le_refl _⟩ (cap := en.2.2) hfit (by simp)
          refine fin r1 r2 r3 r4 r5 fun tt => ?_
          rw [← hvr]
          have := run_appIn (w' := w') (tt := tt) (b := en.1) (o := en.2.1 + o') (n := 0) (cc := en.2.2) ht htx hi hlen hcells (by omega) (by rw [Nat.zero_mul, Nat.add_zero, ← c4]; exact r0)
          simpa using this
        · -- no room: a fresh block; the old one is let go
          obtain ⟨b1, b2⟩ := freshK_bounds g11
          have hr : ∀ tt, _ := fun tt => run_append_grows (P := P) (w := w) (tt := tt) (p := some ⟨en.1, en.2.1 + cond (Nat.beq en.2.2 0) o o', none⟩) (n := 0) (c := en.2.2) ht htx hi hiz hlen hcells' ols0 (by omega) (by omega) (growslice_fits (by omega) (by rw [hby, Nat.zero_add]; exact b1))
          have hge := grownCap_ge w (0 + (m + 1)) en.2.2 e'
          have s1 : Rel T c ρ fr ds M1 nx a w := ⟨s.size, s.slots, s.dfs, s.rep.drop hM1, s.nx, s.same, s.glob⟩
          obtain ⟨M', ρ', r1, r2, r3, r4, r5⟩ := freshK_new g11 s1 RL.nil src.rl rfl src.ones (cap := grownCap w (0 + (m + 1)) en.2.2 e') (by simpa using hge) (tail := (Builtin.zeroCells z'.cells (grownCap w (0 + (m + 1)) en.2.2 e' - (m + 1))).toList) (tail_len hzs) rfl
          refine fin r1 r2 r3 r4 r5 fun tt => ?_
          rw [← hvr]
          have := hr tt
          simp only [Nat.zero_add] at this ⊢
          exact this
  case sl i0 o n cc sb =>
    obtain ⟨hnc, g10⟩ := both_eq.1 g9
    have hnc := Nat.le_of_ble_eq_true hnc
    clear g9
    have e1 := h1.ren
    simp only [ren, Option.map_eq_some_iff] at e1
    obtain ⟨en, hen, hvr⟩ := e1
    cases m with
    | zero => exact same0 hvr.symm (by omega) rfl g10
    | succ m =>
      have g10 : forceN (Nat.add n (m + 1)) (fun need => Option.rec false (fun ck : Ck => match ck with
        | .row e' s' l fz => both (Nat.beq e' e) (both (Nat.beq s' q.size) (Bool.rec
            (Bool.rec (splitL l o fun _ B => splitL B (Nat.mul n q.size) fun olds _ => both (allL one olds) (freshK q e nx need M 0 olds news k))
              (both (Nat.beq n cc) (lenL l 0 fun len => both (Nat.beq len (Nat.add o (Nat.mul n q.size))) (both (Nat.ble fz len) (splitL l o fun _ olds => M.del i0 fun M1 => freshK q e nx need M1 (Nat.mul n q.size) olds news k)))) sb)
            (forceN (Nat.add o (Nat.mul n q.size)) fun at' => both (Nat.ble fz at') (splitL l at' fun A B => splitL B (Nat.mul (m + 1) q.size) fun _ C => appL news C fun D => appL A D fun l' => turnK M nx i0 (.row e' s' l' fz) (k (.sl i0 o need cc sb))))
            (Nat.ble need cc)))
        | .ro _ l => Bool.rec (Bool.rec (splitL l o fun _ B => splitL B (Nat.mul n q.size) fun olds _ => both (allL one olds) (freshK q e nx need M 0 olds news k)) false sb) false (Nat.ble need cc)
        | _ => false) (M.get i0)) = true := g10
      rw [forceN_eq] at g10
      obtain ⟨ck, q1, g11⟩ := opt_rec g10
      clear g10
      have plain : ∀ {l : List AV}, ck.cells = some l → sb = false → Nat.ble (Nat.add n (m + 1)) cc = false → (splitL l o fun _ B => splitL B (Nat.mul n q.size) fun olds _ => both (allL one olds) (freshK q e nx (Nat.add n (m + 1)) M 0 olds news k)) = true → Eff P c ρ a w (.call ⟨.builtin .append, #[x, y], #[t, tx]⟩) k := fun {l} hl hsb hng g => by
        obtain ⟨en', cs, t', fz', vs, he', hb, hrl, hA⟩ := s.rep.cells q1 hl
        rw [hen] at he'; cases he'
        obtain ⟨c2, g⟩ := splitL_spec g
        obtain ⟨c3, g⟩ := splitL_spec g
        obtain ⟨c4, g⟩ := both_eq.1 g
        have hsub := (hrl.drop o).take (n * q.size)
        have hon : ((vs.drop o).take (n * q.size)).length = n * q.size := by rw [hsub.length]; exact List.length_take_of_le c3
        subst hsb
        refine grow hvr.symm rfl (fun hh => ?_) hsub c4 ?_ g
        · have : Nat.ble (Nat.add n (m + 1)) cc = true := by rw [Nat.ble_eq]; simpa using hh
          rw [this] at hng; cases hng
        · have hAt := hA.sub (i := o) (n := n * q.size)
          have := run_loadCells_at (P := P) (w := w.drew) (drew_heap hb) hAt
          rw [hon] at this
          simp only [Builtin.firstCells]
          rw [hsz]; exact this
      cases ck <;> try (cases g11; done)
      case ro t0 l =>
        cases hng : Nat.ble (Nat.add n (m + 1)) cc with
        | true => simp only [hng] at g11; cases g11
        | false =>
          simp only [hng] at g11
          cases sb with
          | true => cases g11
          | false => exact plain rfl rfl hng g11
      case row e' s' l fz =>
        obtain ⟨c2, g12⟩ := both_eq.1 g11
        obtain ⟨c3, g13⟩ := both_eq.1 g12
        clear g11 g12
        obtain rfl := Nat.eq_of_beq_eq_true c2
        obtain rfl := Nat.eq_of_beq_eq_true c3
        cases hng : Nat.ble (Nat.add n (m + 1)) cc with
        | true =>
          rw [hng] at g13
          have hroom : n + (m + 1) ≤ cc := Nat.le_of_ble_eq_true hng
          have g13 : forceN (Nat.add o (Nat.mul n q.size)) (fun at' => both (Nat.ble fz at') (splitL l at' fun A B => splitL B (Nat.mul (m + 1) q.size) fun _ C => appL news C fun D => appL A D fun l' => turnK M nx i0 (.row e' q.size l' fz) (k (.sl i0 o (Nat.add n (m + 1)) cc sb)))) = true := g13
          rw [forceN_eq] at g13
          obtain ⟨c4, g14⟩ := both_eq.1 g13
          obtain ⟨c5, g15⟩ := splitL_spec g14
          obtain ⟨c6, g16⟩ := splitL_spec g15
          rw [appL_eq, appL_eq] at g16
          obtain ⟨e0, he0, hsh, _⟩ := s.rep.own _ _ q1
          rw [hen] at he0; cases he0
          have hnl' : news.length = (m + 1) * q.size := by rw [← src.rl.length]; exact hnl
          have c6 : (m + 1) * q.size ≤ (l.drop (o + n * q.size)).length := c6
          obtain ⟨w', r0, r3, r2, r4⟩ := row_write (P := P) (o := o + n * q.size) hsh src.rl src.ones (by rw [hnl']; rw [List.length_drop] at c6; have c5 : o + n * q.size ≤ l.length := c5; omega) (Nat.le_of_ble_eq_true c4)
          obtain ⟨M', k1, k2⟩ := turnK_spec (ck' := .row e' q.size (l.take (o + n * q.size) ++ (news ++ l.drop (o + n * q.size + news.length))) fz) (by rw [hnl', ← List.drop_drop]; exact g16) s q1 rfl rfl hen r2 r4
          refine fin (.refl ρ) (r := .slice (some ⟨en.1, en.2.1 + o, none⟩) (n + (m + 1)) (cc + cond sb en.2.2 0)) (by simp [ren, hen]) k1 k2 r3 fun tt => ?_
          rw [← hvr]
          exact run_appIn (w' := w') ht htx hi hlen hcells (by omega) (by rw [hsz, Nat.add_assoc]; exact r0)
        | false =>
          rw [hng] at g13
          have hnroom : ¬ n + (m + 1) ≤ cc := fun hh => by
            have : Nat.ble (Nat.add n (m + 1)) cc = true := by rw [Nat.ble_eq]; exact hh
            rw [this] at hng; cases hng
          cases sb with
          | false => exact plain rfl rfl hng g13
          | true =>
            obtain ⟨c4, g14⟩ := both_eq.1 (show both (Nat.beq n cc) (lenL l 0 fun len => both (Nat.beq len (Nat.add o (Nat.mul n q.size))) (both (Nat.ble fz len) (splitL l o fun _ olds => M.del i0 fun M1 => freshK q e' nx (Nat.add n (m + 1)) M1 (Nat.mul n q.size) olds news k))) = true from g13)
            rw [lenL_eq] at g14
            obtain ⟨c5, g15⟩ := both_eq.1 g14
            obtain ⟨c6, g16⟩ := both_eq.1 g15
            obtain ⟨c7, g17⟩ := splitL_spec g16
            obtain ⟨M1, hM1, g18⟩ := Tr.del_spec g17
            obtain rfl := Nat.eq_of_beq_eq_true c4
            have c5 : l.length = o + n * q.size := Nat.eq_of_beq_eq_true c5
            have c6 := Nat.le_of_ble_eq_true c6
            simp only [cond_true] at hvr
            have hol : (l.drop o).length = n * q.size := by rw [List.length_drop]; omega
            obtain ⟨b1, b2⟩ := freshK_bounds g18
            have b1 : (n + (m + 1)) * q.bytes ≤ _ := b1
            have b2 : n + (m + 1) ≤ _ := b2
            by_cases hfit : n + (m + 1) ≤ n + en.2.2
            · obtain ⟨w', M', ρ', r0, r1, r2, r3, r4, r5⟩ := freshK_move (o := o) (olds := l.drop o) (nv := nv) g18 s q1 hM1 hen rfl src.rl src.ones (by rw [hnl, hol]; show _ = (n + (m + 1)) * q.size - _; rw [Nat.add_mul n, Nat.add_sub_cancel_left]) (by rw [hol]; exact Nat.mul_le_mul_right _ (Nat.le_add_right _ _)) c7 ⟨by rw [hol]; omega, by rw [hol]; exact Nat.le_refl _⟩ (cap := n + en.2.2) hfit (by rw [hol, Nat.add_mul]; exact Nat.le_refl _)
              refine fin r1 r2 r3 r4 r5 fun tt => ?_
              rw [← hvr]
              exact run_appIn (w' := w') ht htx hi hlen hcells hfit (by rw [hsz, Nat.add_assoc, ← c5]; exact r0)
            · obtain ⟨en', cs, t', fz', vs, he', hb, hrl, hA⟩ := s.rep.cells q1 rfl
              rw [hen] at he'; cases he'
              have hsub := hrl.drop o
              have hon : (vs.drop o).length = n * q.size := by rw [hsub.length]; exact hol
              have hold : (Builtin.firstCells i.size n (.slice (some ⟨en.1, en.2.1 + o, none⟩) n (n + en.2.2))).run P w.drew = .ok ⟨vs.drop o⟩ w.drew := by
                have hAt := hA.drop (i := o)
                have := run_loadCells_at (P := P) (w := w.drew) (drew_heap hb) hAt
                rw [hon] at this
                simp only [Builtin.firstCells]
                rw [hsz]; exact this
              have hr : ∀ tt, _ := fun tt => run_append_grows (P := P) (w := w) (tt := tt) (p := some ⟨en.1, en.2.1 + o, none⟩) (n := n) (c := n + en.2.2) ht htx hi hiz hlen hcells' hold hfit b2 (growslice_fits (by omega) (by rw [hby]; exact b1))
              have hge := grownCap_ge w (n + (m + 1)) (n + en.2.2) e'
              have s1 : Rel T c ρ fr ds M1 nx a w := ⟨s.size, s.slots, s.dfs, s.rep.drop hM1, s.nx, s.same, s.glob⟩
              obtain ⟨e0, he0, hsh, _⟩ := s.rep.own _ _ q1
              obtain ⟨_, _, _, _, _, _, _, _, _, hones⟩ := hsh
              have hones' : allL one (l.drop o) = true := allL_mk fun x hx => allL_spec hones x (List.mem_of_mem_drop hx)
              obtain ⟨M', ρ', r1, r2, r3, r4, r5⟩ := freshK_new g18 s1 hsub src.rl hones' src.ones hge (tail := (Builtin.zeroCells z'.cells (grownCap w (n + (m + 1)) (n + en.2.2) e' - (n + (m + 1)))).toList) (tail_len hzs) rfl
              refine fin r1 r2 r3 r4 r5 fun tt => ?_
              rw [← hvr]
              exact hr tt
end
end Go.Ev
