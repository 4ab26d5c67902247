/- The evaluator, part O: bytes of a text, literals of slices, append, copy. -/
import Derived.Test.YtppdclebbcmcaaaEvN
set_option linter.unusedSimpArgs false
set_option linter.unusedVariables false
namespace Go.Ev
open Go.Sl
noncomputable section
variable {P : Program} {T : Tabs P} {c : Cn} {ρ : Env} {fr : Tr AV} {ds : List AD} {M : Mem} {nx : Nat} {a : Act} {w : World}

/-! ### bytes of a text -/
def u8A (l : List Nat) (k : List AV → Bool) : Bool := mapL (fun (b : Nat) (k : AV → Bool) => k (.int .u8 (.ofNat b))) l k
theorem u8A_spec {l : List Nat} {k : List AV → Bool} (h : u8A l k = true) : k (l.map fun b => .int .u8 (.ofNat b)) = true := by
  obtain ⟨ys, h1, h2⟩ := mapL_spec (p := fun b v => v = AV.int .u8 (.ofNat b)) (fun x k h => ⟨_, rfl, h⟩) h
  rw [all2_map h1] at h2; exact h2
theorem u8A_ren (ρ : Env) : ∀ {l : List Nat}, small l = true → RL ρ (l.map fun b => .int .u8 (.ofNat b)) (u8s (l.map UInt8.ofNat))
  | [], _ => RL.nil
  | x :: l, h => by
    obtain ⟨h1, h2⟩ := small_cons h
    have : u8s ((x :: l).map UInt8.ofNat) = .int .u8 (x : Nat) :: u8s (l.map UInt8.ofNat) := by simp only [u8s, List.map_cons, u8_ofNat h1]
    rw [this]
    exact RL.cons rfl (u8A_ren ρ h2)
theorem u8A_one (l : List Nat) : allL one (l.map fun b => AV.int .u8 (.ofNat b)) = true := allL_mk fun x hx => by
  obtain ⟨b, _, rfl⟩ := List.mem_map.1 hx; rfl
def bytesOfK (T : Tabs P) (fr : Tr AV) (M : Mem) (nx : Nat) (ts td : TypeId) (x : Operand) (k : AV → Mem → Nat → Bool) : Bool := argK T fr x fun v => match v with
  | .str l => knownK T ts (Option.rec false (fun r => match r with
    | ⟨.sl e, _, _⟩ => Option.rec false (fun q => match q with
      | ⟨.int .u8, _, _⟩ => lenL l 0 fun n => u8A l fun cells => newK M nx (.row e 1 cells 0) (k (.sl nx 0 n n true))
      | _ => false) (T.T e)
    | _ => false) (T.T td))
  | _ => false
theorem bytesOfK_spec {ts td : TypeId} {x : Operand} {k : AV → Mem → Nat → Bool} (h : bytesOfK T fr M nx ts td x k = true) (s : Rel T c ρ fr ds M nx a w) : Eff P c ρ a w (.convert ts td x) k := by
  obtain ⟨v, r, h1, g⟩ := argK_spec h s
  clear h
  cases v <;> try (cases g; done)
  rename_i l
  obtain ⟨⟨dsc, hs⟩, g⟩ := knownK_spec g
  obtain ⟨⟨d, _, _⟩, h2, g⟩ := opt_rec g
  cases d <;> try (cases g; done)
  rename_i e
  obtain ⟨⟨d', _, _⟩, h3, g⟩ := opt_rec g
  cases d' <;> try (cases g; done)
  rename_i kd
  cases kd <;> try (cases g; done)
  have hd := (T.okT _ _ h2).td
  have he := (T.okT _ _ h3).td
  obtain ⟨s1, rfl⟩ := ren_str h1.ren
  have g : lenL l 0 (fun n => u8A l fun cells => newK M nx (.row e 1 cells 0) (k (.sl nx 0 n n true))) = true := g
  rw [lenL_eq] at g
  have g := u8A_spec g
  have hr := Lib.run_convert_string_bytes (P := P) w ts td e ⟨⟨l.map UInt8.ofNat⟩⟩ hs hd he
  have hge := grownCap_ge w l.length 0 e
  have hnew := Lib.bytesWorld_at_new w e ⟨⟨l.map UInt8.ofNat⟩⟩
  have hcells : Lib.bytesCells w e ⟨⟨l.map UInt8.ofNat⟩⟩ = ⟨u8s (l.map UInt8.ofNat) ++ List.replicate (grownCap w l.length 0 e - l.length) (.int .u8 0)⟩ := by
    apply Array.ext'; simp [Lib.bytesCells, u8s, ByteArray.size]
  rw [hcells] at hnew
  have hold : le (mem w) (mem (Lib.bytesWorld w e ⟨⟨l.map UInt8.ofNat⟩⟩)) := fun k u hk => by
    show (Lib.bytesWorld w e ⟨⟨l.map UInt8.ofNat⟩⟩).heap[k]? = some u
    rw [Lib.bytesWorld_at_old w e _ k (mem_lt hk)]; exact hk
  obtain ⟨M', g1, g2⟩ := Tr.set_spec g
  rw [forceN_eq] at g2
  rw [← s.nx] at g1
  have hrep := s.rep.add (w' := Lib.bytesWorld w e ⟨⟨l.map UInt8.ofNat⟩⟩) (e := (w.heap.size, 0, grownCap w l.length 0 e - l.length)) g1 rfl (by simp) hold (by
    rw [hnew]
    refine ⟨[], _, _, _, (u8A_ren ρ s1).ext (Ext.one _ _), rfl, rfl, ?_, ?_, u8A_one l⟩
    · simp
    · right; right; simp [u8s_length])
  have hsame : Same w (Lib.bytesWorld w e ⟨⟨l.map UInt8.ofNat⟩⟩) := ⟨rfl, rfl, rfl, by rw [Lib.bytesWorld_size]; omega⟩
  refine ⟨.sl nx 0 l.length l.length true, .slice (some ⟨w.heap.size, 0, none⟩) l.length (grownCap w l.length 0 e), _, M', _, _, Ext.one _ _, ?_, by rw [Env.length_app, s.nx]; exact g2, hrep, hsame, .inl rfl, ?_⟩
  · rw [← s.nx, ren_newSl]; simp only [cond_true]; rw [show l.length + (grownCap w l.length 0 e - l.length) = grownCap w l.length 0 e by omega]
  · rintro ⟨d, op', ty, pos, af, gg⟩ rfl
    simp only [execOp, h1.eval, Sem.run_bind, strV]
    rw [hr]
    simp [ByteArray.size]

/-! ### a byte literal's mark -/
def markK (T : Tabs P) (fr : Tr AV) (M : Mem) (nx : Nat) (ts td : TypeId) (x : Operand) (k : AV → Mem → Nat → Bool) : Bool := argK T fr x fun v => match v with
  | .sl i o n cc sb => both (Nat.beq ts td) (Option.rec false (fun r => match r with
    | ⟨.sl e, _, _⟩ => Option.rec false (fun q => match q with
      | ⟨.int .u8, _, _⟩ => Option.rec false (fun ck => match ck with
        | .row t' sz l _ => lenL l 0 fun m => forceN (Nat.succ m) fun m' => turnK M nx i (.row t' sz l m') (k (.sl i o n cc sb))
        | _ => false) (M.get i)
      | _ => false) (T.T e)
    | _ => false) (T.T td))
  | _ => false
theorem markK_spec {ts td : TypeId} {x : Operand} {k : AV → Mem → Nat → Bool} (h : markK T fr M nx ts td x k = true) (s : Rel T c ρ fr ds M nx a w) : Eff P c ρ a w (.convert ts td x) k := by
  obtain ⟨v, r, h1, g⟩ := argK_spec h s
  clear h
  cases v <;> try (cases g; done)
  rename_i i o n cc sb
  obtain ⟨g0, g⟩ := both_eq.1 g
  obtain rfl := Nat.eq_of_beq_eq_true g0
  obtain ⟨⟨d, _, _⟩, h2, g⟩ := opt_rec g
  cases d <;> try (cases g; done)
  rename_i e
  obtain ⟨⟨d', _, _⟩, h3, g⟩ := opt_rec g
  cases d' <;> try (cases g; done)
  rename_i kd
  cases kd <;> try (cases g; done)
  obtain ⟨ck, h4, g⟩ := opt_rec g
  cases ck <;> try (cases g; done)
  rename_i t' sz l fz
  have g : lenL l 0 (fun m => forceN (Nat.succ m) fun m' => turnK M nx i (.row t' sz l m') (k (.sl i o n cc sb))) = true := g
  rw [lenL_eq, forceN_eq] at g
  have hd := (T.okT _ _ h2).td
  have he := (T.okT _ _ h3).td
  obtain ⟨en, q1, ⟨pre, vs, ex, fzr, a1, a2, a3, a4, a5, a6⟩, _⟩ := s.rep.own _ _ h4
  have e1 := h1.ren
  simp only [ren, q1, Option.map_some, Option.some.injEq] at e1
  subst e1
  have hsh : w.shape? en.1 = some (t', (pre ++ (vs ++ ex)).length) := by simp [World.shape?, a2]
  have hnew : ∃ fz', (w.freeze ⟨en.1, (pre ++ (vs ++ ex)).length, none⟩ 1).heap[en.1]? = some (.cells ⟨pre ++ (vs ++ ex)⟩ t' fz') := by
    obtain ⟨lo, hi⟩ := fzr
    refine ⟨if (lo == hi) = true then ((pre ++ (vs ++ ex)).length, (pre ++ (vs ++ ex)).length + 1) else (min lo (pre ++ (vs ++ ex)).length, max hi ((pre ++ (vs ++ ex)).length + 1)), ?_⟩
    simp only [World.freeze, Nat.one_ne_zero, if_false, Array.getElem?_modify, if_true, a2, Option.map_some]
  obtain ⟨fz', hnew⟩ := hnew
  have hold : ∀ b, b ≠ en.1 → (w.freeze ⟨en.1, (pre ++ (vs ++ ex)).length, none⟩ 1).heap[b]? = w.heap[b]? := fun b hb => by
    simp [World.freeze, Array.getElem?_modify, Ne.symm hb]
  obtain ⟨M', k1, k2⟩ := turnK_spec g s h4 rfl rfl q1 hold (show rowIs ρ en _ t' sz l (l.length + 1) from ⟨pre, vs, ex, fz', a1, hnew, a3, a4, .inl (Nat.lt_succ_self _), a6⟩)
  refine ⟨_, _, ρ, M', _, _, .refl ρ, h1.ren, k1, k2, ⟨rfl, rfl, rfl, by simp [World.freeze]⟩, .inl rfl, ?_⟩
  rintro ⟨d, op', ty, pos, af, gd⟩ rfl
  simp only [execOp, h1.eval]
  simp [convert, run_underlying hd, run_underlying he, markStringish, hsh]
def toSlK (T : Tabs P) (fr : Tr AV) (M : Mem) (nx : Nat) (ts td : TypeId) (x : Operand) (k : AV → Mem → Nat → Bool) : Bool := argK T fr x fun v => match v with
  | .str _ => bytesOfK T fr M nx ts td x k
  | _ => markK T fr M nx ts td x k
theorem toSlK_spec {ts td : TypeId} {x : Operand} {k : AV → Mem → Nat → Bool} (h : toSlK T fr M nx ts td x k = true) (s : Rel T c ρ fr ds M nx a w) : Eff P c ρ a w (.convert ts td x) k := by
  obtain ⟨v, r, h1, g⟩ := argK_spec h s
  cases v <;> first | exact bytesOfK_spec g s | exact markK_spec g s

/-! ### literals of slices -/
def sliceLitK (P : Program) (T : Tabs P) (fr : Tr AV) (M : Mem) (nx : Nat) (t : TypeId) (len : Nat) (parts : Array (Nat × Operand)) (k : AV → Mem → Nat → Bool) : Bool := Option.rec false (fun r => match r with
  | ⟨.sl e, _, _⟩ => Option.rec false (fun q => argsK T fr (parts.toList.map (·.2)) fun vs => zeroK P e fun z => lenL (cellsA z) 0 fun j => both (Nat.beq j q.size) (both (Nat.blt 0 (Nat.mul len q.size)) (both (Nat.ble (Nat.mul len q.size) 16777216)
      (repApp (cellsA z) len [] fun base => fillK (fun i => some (Nat.mul i q.size, q.size)) (parts.toList.map (·.1)) vs base fun cells => both (allL one cells) (newK M nx (.row e q.size cells 0) (k (.sl nx 0 len len false)))))) ) (T.T e)
  | _ => false) (T.T t)
def sliceLit0K (T : Tabs P) (M : Mem) (nx : Nat) (t : TypeId) (k : AV → Mem → Nat → Bool) : Bool := Option.rec false (fun r => match r with
  | ⟨.sl e, _, _⟩ => Option.rec false (fun q => newK M nx (.row e q.size [] 0) (k (.sl nx 0 0 0 false))) (T.T e)
  | _ => false) (T.T t)
theorem sliceLitK_spec {t : TypeId} {len : Nat} {parts : Array (Nat × Operand)} {k : AV → Mem → Nat → Bool} (h : sliceLitK P T fr M nx t len parts k = true) (s : Rel T c ρ fr ds M nx a w) : Eff P c ρ a w (.buildSlice t len parts) k := by
  obtain ⟨⟨d, _, _⟩, h1, g⟩ := opt_rec h
  clear h
  cases d <;> try (cases g; done)
  rename_i e
  have ht := (T.okT _ _ h1).td
  obtain ⟨q, h2, g⟩ := opt_rec g
  obtain ⟨vs, rs, h3, g⟩ := argsK_spec s g
  obtain ⟨z, h4, g⟩ := opt_rec g
  obtain ⟨z', z1, z2, z3⟩ := zeroA_spec h4 ρ
  rw [lenL_eq] at g
  obtain ⟨c1, g⟩ := both_eq.1 g
  obtain ⟨c2, g⟩ := both_eq.1 g
  obtain ⟨c3, g⟩ := both_eq.1 g
  rw [repApp_eq, List.append_nil] at g
  have c1 := Nat.eq_of_beq_eq_true c1
  rw [Nat.blt_eq] at c2
  have c2 : 0 < len * q.size := c2
  have c3 : len * q.size ≤ 16777216 := Nat.le_of_ble_eq_true c3
  have hz := cellsA_spec z2
  have hzl : z'.cells.toList.length = q.size := by rw [hz.length]; exact c1
  obtain ⟨cells, cv, g1, g2, g3⟩ := fillK_spec g h3.1 (hz.flat len)
  obtain ⟨g4, g5⟩ := both_eq.1 g1
  obtain ⟨i, hi, hsz⟩ := Option.map_eq_some_iff.1 (T.okT _ _ h2).size
  have hiz : i.zero = some z' := by unfold zeroV at z1; rw [hi] at z1; exact z1
  have hbase : (Array.range (len * i.size)).map (z'.cells[· % z'.cells.size]!) = ⟨(List.replicate len z'.cells.toList).flatten⟩ := by
    have h0 : 0 < z'.cells.toList.length := by
      rcases Nat.eq_zero_or_pos q.size with h | h
      · rw [h] at c2; simp at c2
      · omega
    have := made_flat z'.cells.toList h0 len
    rw [hzl] at this
    rw [hsz]
    exact Array.toList_inj.1 this
  have hfill := fill_list g3
  obtain ⟨M', k1, k2, k3⟩ := newK_spec (κ := 0) (o := .cells ⟨cv⟩ e) g5 s (.inl rfl) rfl (sh_new g2 g4)
  have hpart := parts_map a.eval parts.toList
  have hev : (parts.toList.map (·.2)).map a.eval = rs := (st_full none a (sat_all w)).evals (h3.2 none w (mem w))
  rw [hev] at hpart
  have hrun := run_buildSlice w t e len (parts.map fun x => (x.1, a.eval x.2)) ⟨cv⟩ i z' ht hi hiz (by rw [hsz]; omega) (by rw [hsz]; omega) (by rw [hbase, hsz, Array.toList_map, hpart]; exact hfill)
  refine ⟨.sl nx 0 len len false, .slice (some ⟨w.heap.size, 0, none⟩) len len, _, M', _, _, Ext.one _ _, by rw [← s.nx]; exact ren_newSl, k1, k2, k3, .inl rfl, ?_⟩
  rintro ⟨d, op', ty, pos, af, gg⟩ rfl
  simp [execOp, hrun]
theorem sliceLit0K_spec {t : TypeId} {k : AV → Mem → Nat → Bool} (h : sliceLit0K T M nx t k = true) (s : Rel T c ρ fr ds M nx a w) : Eff P c ρ a w (.buildSlice t 0 #[]) k := by
  obtain ⟨⟨d, _, _⟩, h1, g⟩ := opt_rec h
  clear h
  cases d <;> try (cases g; done)
  rename_i e
  have ht := (T.okT _ _ h1).td
  obtain ⟨q, h2, g⟩ := opt_rec g
  obtain ⟨M', k1, k2, k3⟩ := newK_spec (κ := 0) (o := .cells ⟨[]⟩ e) g s (.inl rfl) rfl (sh_new RL.nil rfl)
  refine ⟨.sl nx 0 0 0 false, .slice (some ⟨w.heap.size, 0, none⟩) 0 0, _, M', _, _, Ext.one _ _, by rw [← s.nx]; exact ren_newSl, k1, k2, k3, .inl rfl, ?_⟩
  rintro ⟨d, op', ty, pos, af, gg⟩ rfl
  have hsz := Sl.run_sizeOf (T.okT _ _ h2).size
  simp [execOp, Instr.buildSlice, run_underlying ht, hsz, Instr.fill, run_newRow]
  congr 2; apply Array.ext'; simp

/-! ### what is appended or copied -/
def srcK (M : Mem) (sz : Nat) (v : AV) (k : Nat → List AV → Bool) : Bool := match v with
  | .nils => k 0 []
  | .em _ _ _ _ => k 0 []
  | .sl i o n _ _ => Option.rec false (fun ck => Option.rec false (fun l => splitL l o fun _ y => splitL y (Nat.mul n sz) fun A _ => both (allL one A) (k n A)) ck.cells) (M.get i)
  | .str l => both (Nat.beq sz 1) (lenL l 0 fun n => u8A l fun A => k n A)
  | _ => false
structure SrcOk (P : Program) (ρ : Env) (w : World) (sz : Nat) (r : Value) (n : Nat) (A : List AV) (us : List Value) : Prop where
  rl : RL ρ A us
  ones : allL (α := AV) Go.Ev.one A = true
  len : us.length = n * sz
  run : ∀ w' : World, (∀ (b : Nat) (o : Obj), w.heap[b]? = some o → w'.heap[b]? = some o) → (Builtin.lenOf r).run P w' = .ok n w' ∧ (Builtin.firstCells sz n r).run P w' = .ok ⟨us⟩ w'
theorem srcK_spec {sz : Nat} {v : AV} {r : Value} {k : Nat → List AV → Bool} (h : srcK M sz v k = true) (hr : ren ρ v = some r) {hF : Hp} (s : Rep ρ M hF w) : ∃ n A us, k n A = true ∧ SrcOk P ρ w sz r n A us := by
  cases v with
  | nils =>
    obtain rfl : r = .slice none 0 0 := by simpa [ren] using hr.symm
    exact ⟨0, [], [], h, ⟨RL.nil, rfl, by simp, fun w' _ => ⟨by simp [Builtin.lenOf], by simp [Builtin.firstCells]⟩⟩⟩
  | em i o o' sb =>
    simp only [ren, Option.map_eq_some_iff] at hr
    obtain ⟨e, _, rfl⟩ := hr
    exact ⟨0, [], [], h, ⟨RL.nil, rfl, by simp, fun w' _ => ⟨by simp [Builtin.lenOf], by simp [Builtin.firstCells, loadCells, loadCellsFrom]⟩⟩⟩
  | sl i o n cc sb =>
    obtain ⟨ck, h1, g⟩ := opt_rec h
    obtain ⟨l, h2, g⟩ := opt_rec g
    obtain ⟨e, cs, t, fz, vs, he, hb, hl, hA⟩ := s.cells h1 h2
    obtain ⟨g1, g⟩ := splitL_spec g
    obtain ⟨g2, g⟩ := splitL_spec g
    obtain ⟨g3, g⟩ := both_eq.1 g
    have hsub := (hl.drop o).take (n * sz)
    have hn : ((vs.drop o).take (n * sz)).length = n * sz := by rw [hsub.length]; exact List.length_take_of_le g2
    simp only [ren, he, Option.map_some, Option.some.injEq] at hr
    subst hr
    refine ⟨n, _, _, g, ⟨hsub, g3, hn, fun w' hw' => ⟨by simp [Builtin.lenOf], ?_⟩⟩⟩
    have hAt := hA.sub (i := o) (n := n * sz)
    have := run_loadCells_at (P := P) (hw' _ _ hb) hAt
    rw [hn] at this
    simp only [Builtin.firstCells]
    exact this
  | str l =>
    obtain ⟨g1, g⟩ := both_eq.1 h
    obtain rfl := Nat.eq_of_beq_eq_true g1
    rw [lenL_eq] at g
    have g := u8A_spec g
    obtain ⟨s1, rfl⟩ := ren_str hr
    refine ⟨l.length, _, _, g, ⟨u8A_ren ρ s1, u8A_one l, by simp, fun w' _ => ?_⟩⟩
    have hS := Src.str (P := P) (cx := ⟨0, [], mem w', w', none⟩) (Γ := []) (l := l.map UInt8.ofNat)
    have h1 := hS.len w'
    have h2 := hS.cells w' (sat_all w')
    rw [List.length_map] at h1 h2
    exact ⟨h1, h2⟩
  | _ => cases h
end
end Go.Ev
