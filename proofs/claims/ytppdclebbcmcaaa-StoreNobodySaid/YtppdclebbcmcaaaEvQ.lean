/- The evaluator, part Q: copy; calls of functions without a body; all operations but calls. -/
import Derived.Test.YtppdclebbcmcaaaEvP
set_option linter.unusedSimpArgs false
set_option linter.unusedVariables false
namespace Go.Ev
open Go.Sl
noncomputable section
variable {P : Program} {T : Tabs P} {c : Cn} {ρ : Env} {fr : Tr AV} {ds : List AD} {M : Mem} {nx : Nat} {a : Act} {w : World}

/-! ### copy -/
def putRowK (T : Tabs P) (M : Mem) (nx : Nat) (sz : Nat) (i o : Nat) (n : Nat) (news : List AV) (k : AV → Mem → Nat → Bool) : Bool := Option.rec false (fun ck => match ck with
  | .row t' s' l fz => both (Nat.ble fz o) (splitL l o fun A B => splitL B (Nat.mul n sz) fun _ C => appL news C fun D => appL A D fun l' => turnK M nx i (.row t' s' l' fz) (k (.int .i64 (.ofNat n))))
  | _ => false) (M.get i)
def copyK (T : Tabs P) (fr : Tr AV) (M : Mem) (nx : Nat) (t : TypeId) (x y : Operand) (k : AV → Mem → Nat → Bool) : Bool := argK T fr x fun v => argK T fr y fun u => Option.rec false (fun r => match r with
  | ⟨.sl e, _, _⟩ => Option.rec false (fun q => match v with
    | .sl i o n _ _ => (match u with
      | .sl j o2 m c2 s2 => forceN (Bool.rec n m (Nat.ble m n)) fun cnt => srcK M q.size (.sl j o2 cnt c2 s2) fun _ news => putRowK T M nx q.size i o cnt news k
      | .nils => k (.int .i64 (.ofNat 0)) M nx
      | .em _ _ _ _ => k (.int .i64 (.ofNat 0)) M nx
      | .str l => srcK M q.size (.str l) fun m news => both (Nat.ble m n) (putRowK T M nx q.size i o m news k)
      | _ => false)
    | _ => false) (T.T e)
  | _ => false) (T.T t)
theorem putRowK_spec {sz i o n : Nat} {news : List AV} {us : List Value} {k : AV → Mem → Nat → Bool} (h : putRowK T M nx sz i o n news k = true) (s : Rel T c ρ fr ds M nx a w) (hu : RL ρ news us) (h1 : allL one news = true) (hl : us.length = n * sz) {e : Nat × Nat × Nat} (he : ρ[i]? = some e) :
    ∃ w' M', (storeCells ⟨e.1, e.2.1 + o, none⟩ us).run P w = .ok () w' ∧ Same w w' ∧ k (.int .i64 (.ofNat n)) M' ρ.length = true ∧ Rep ρ M' c.hF w' := by
  obtain ⟨ck, q1, g⟩ := opt_rec h
  cases ck <;> try (cases g; done)
  rename_i t' s' l fz
  obtain ⟨c4, g14⟩ := both_eq.1 g
  obtain ⟨c5, g15⟩ := splitL_spec g14
  obtain ⟨c6, g16⟩ := splitL_spec g15
  rw [appL_eq, appL_eq] at g16
  obtain ⟨e0, he0, hsh, _⟩ := s.rep.own _ _ q1
  rw [he] at he0; cases he0
  have hnl' : news.length = n * sz := by rw [← hu.length]; exact hl
  have c6 : n * sz ≤ (l.drop o).length := c6
  obtain ⟨w', r0, r3, r2, r4⟩ := row_write (P := P) (o := o) hsh hu h1 (by rw [hnl']; rw [List.length_drop] at c6; omega) (Nat.le_of_ble_eq_true c4)
  obtain ⟨M', k1, k2⟩ := turnK_spec (ck' := .row t' s' (l.take o ++ (news ++ l.drop (o + news.length))) fz) (by rw [hnl', ← List.drop_drop]; exact g16) s q1 rfl rfl he r2 r4
  exact ⟨w', M', r0, r3, k1, k2⟩
theorem copyK_spec {t tx : TypeId} {x y : Operand} {k : AV → Mem → Nat → Bool} (h : copyK T fr M nx t x y k = true) (s : Rel T c ρ fr ds M nx a w) : Eff P c ρ a w (.call ⟨.builtin .copy, #[x, y], #[t, tx]⟩) k := by
  obtain ⟨v, vr, h1, g1⟩ := argK_spec h s
  obtain ⟨u, ur, h2, g2⟩ := argK_spec g1 s
  obtain ⟨⟨d, _, _⟩, h3, g3⟩ := opt_rec g2
  clear h g1 g2
  cases d <;> try (cases g3; done)
  rename_i e
  have ht := (T.okT _ _ h3).td
  obtain ⟨q, h4, g4⟩ := opt_rec g3
  have hse := Sl.run_sizeOf (T.okT _ _ h4).size
  clear g3
  cases v <;> try (cases g4; done)
  rename_i i o n cc sb
  have e1 := h1.ren
  simp only [ren, Option.map_eq_some_iff] at e1
  obtain ⟨en, hen, rfl⟩ := e1
  have fin : ∀ {m : Nat} {M' w' us}, k (.int .i64 (.ofNat m)) M' ρ.length = true → Rep ρ M' c.hF w' → Same w w' → (∃ j, (Builtin.lenOf ur).run P w = .ok j w ∧ Nat.min j n = m) → (Builtin.firstCells q.size m ur).run P w = .ok ⟨us⟩ w → (storeCells ⟨en.1, en.2.1 + o, none⟩ us).run P w = .ok () w' → Eff P c ρ a w (.call ⟨.builtin .copy, #[x, y], #[t, tx]⟩) k :=
    fun {m M' w' us} q3 q4 q5 hj hc hst => ⟨_, .int .i64 m, ρ, M', w', _, .refl ρ, rfl, q3, q4, q5, .inl rfl, by
      rintro ⟨d, op', ty, pos, af, gg⟩ rfl
      obtain ⟨j, hj1, hj2⟩ := hj
      simp [execOp, resolve, invoke, builtin, Builtin.copy_, h1.eval, h2.eval, run_underlying ht, hj1, hse, hj2, hc, hst, goInt]⟩
  have zero : k (.int .i64 (.ofNat 0)) M nx = true → (Builtin.lenOf ur).run P w = .ok 0 w → (Builtin.firstCells q.size 0 ur).run P w = .ok ⟨[]⟩ w → Eff P c ρ a w (.call ⟨.builtin .copy, #[x, y], #[t, tx]⟩) k := fun hk hl hc =>
    fin (m := 0) (w' := w) (us := []) (by rw [s.nx]; exact hk) s.rep (.refl w) ⟨0, hl, by simp⟩ hc (by simp [storeCells])
  cases u <;> try (cases g4; done)
  case nils =>
    obtain rfl : ur = .slice none 0 0 := by simpa [ren] using h2.ren.symm
    exact zero g4 (by simp [Builtin.lenOf]) (by simp [Builtin.firstCells])
  case em i' o1 o2 sb' =>
    have e2 := h2.ren
    simp only [ren, Option.map_eq_some_iff] at e2
    obtain ⟨en', _, rfl⟩ := e2
    exact zero g4 (by simp [Builtin.lenOf]) (by simp [Builtin.firstCells, loadCells, loadCellsFrom])
  case str l =>
    obtain ⟨m, news, us, g5, src⟩ := srcK_spec (P := P) (show srcK M q.size (.str l) (fun m news => both (Nat.ble m n) (putRowK T M nx q.size i o m news k)) = true from g4) h2.ren s.rep
    obtain ⟨c1, g6⟩ := both_eq.1 g5
    have c1 := Nat.le_of_ble_eq_true c1
    obtain ⟨hlen, hc⟩ := src.run w (fun _ _ h => h)
    obtain ⟨w', M', r0, r1, r2, r3⟩ := putRowK_spec g6 s src.rl src.ones src.len hen
    exact fin r2 r3 r1 ⟨m, hlen, Nat.min_eq_left c1⟩ hc r0
  case sl j o2 m c2 s2 =>
    have g5 : forceN (Bool.rec n m (Nat.ble m n)) (fun cnt => srcK M q.size (.sl j o2 cnt c2 s2) fun _ news => putRowK T M nx q.size i o cnt news k) = true := g4
    rw [forceN_eq] at g5
    have e2 := h2.ren
    simp only [ren, Option.map_eq_some_iff] at e2
    obtain ⟨en', hen', rfl⟩ := e2
    obtain ⟨cnt, hcnt⟩ : ∃ cnt, cnt = (Bool.rec n m (Nat.ble m n) : Nat) := ⟨_, rfl⟩
    rw [← hcnt] at g5
    have hmin : Nat.min m n = cnt := by
      rw [hcnt]
      cases hb : Nat.ble m n with
      | true => exact Nat.min_eq_left (Nat.le_of_ble_eq_true hb)
      | false => exact Nat.min_eq_right (by
          have : ¬ m ≤ n := fun hh => by rw [← Nat.ble_eq, hb] at hh; cases hh
          omega)
    obtain ⟨m', news, us, g6, src⟩ := srcK_spec (P := P) (r := .slice (some ⟨en'.1, en'.2.1 + o2, none⟩) cnt (c2 + cond s2 en'.2.2 0)) g5 (by simp [ren, hen']) s.rep
    obtain ⟨hlen, hc⟩ := src.run w (fun _ _ h => h)
    have hm' : m' = cnt := by simp [Builtin.lenOf] at hlen; exact hlen.symm
    subst hm'
    obtain ⟨w', M', r0, r1, r2, r3⟩ := putRowK_spec g6 s src.rl src.ones src.len hen
    exact fin r2 r3 r1 ⟨m, by simp [Builtin.lenOf], hmin⟩ (by simpa [Builtin.firstCells] using hc) r0
end
end Go.Ev
