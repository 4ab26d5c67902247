/- ChannelNobody, by the evaluator. -/
import Derived.Test.YtabbonafljochaaGreatDoorEvX
import Derived.Test.YtabbonafljochaaGreatDoorCnG
set_option linter.unusedSimpArgs false
set_option linter.unusedVariables false
set_option maxRecDepth 1000000
namespace Go.Ev
open Go.Sl Go.Sh
noncomputable section
def glT (g : Nat) : Option Nat := Bool.rec none (some g) (Nat.blt g 3)
def itT (f : Nat) : Option (List AV → Mem → Nat → (AV → Mem → Nat → Bool) → Bool) := Bool.rec none (some (blockI 1)) (Nat.beq f 111)
theorem itT_ok (f : Nat) (g : List AV → Mem → Nat → (AV → Mem → Nat → Bool) → Bool) (h : itT f = some g) : f = 111 ∧ g = blockI 1 := by
  unfold itT at h
  cases q : Nat.beq f 111 with
  | false => rw [q] at h; cases h
  | true => rw [q] at h; cases h; exact ⟨Nat.eq_of_beq_eq_true q, rfl⟩
def tbs : Tabs pr := ⟨look2 tabT, look2 tabF, glT, chkT_ok tabT_ok, chkF_ok (k := 0) tabF_16 tabF_le tabF_all tabF_nm, xK tabX, xK_ok tabX_ok, itT, fun f g h => by
  obtain ⟨rfl, rfl⟩ := itT_ok f g h
  exact ⟨by kernel_rfl, fun vs M nx k hb ρ hF w rs hr hn hg hv => blockI_spec hb hr hn (hg _ _ rfl) hv⟩⟩
def tabK : List Nat := [1116352408, 1899447441, 3049323471, 3921009573, 961987163, 1508970993, 2453635748, 2870763221, 3624381080, 310598401, 607225278, 1426881987, 1925078388, 2162078206, 2614888103, 3248222580, 3835390401, 4022224774, 264347078, 604807628, 770255983, 1249150122, 1555081692, 1996064986, 2554220882, 2821834349, 2952996808, 3210313671, 3336571891, 3584528711, 113926993, 338241895, 666307205, 773529912, 1294757372, 1396182291, 1695183700, 1986661051, 2177026350, 2456956037, 2730485921, 2820302411, 3259730800, 3345764771, 3516065817, 3600352804, 4094571909, 275423344, 430227734, 506948616, 659060556, 883997877, 958139571, 1322822218, 1537002063, 1747873779, 1955562222, 2024104815, 2227730452, 2361852424, 2428436474, 2756734187, 3204031479, 3329325298]
def vtxA : List AV := [.int .u8 0, .int .u8 0, .int .u8 0, .int .u8 0, .int .u8 0, .int .u8 0, .int .u8 0, .int .u8 0, .int .u8 0, .int .u8 0, .int .u8 0, .int .u8 0, .int .u8 0, .int .u8 0, .int .u8 0, .int .u8 0, .int .u8 0, .int .u8 0, .int .u8 0, .int .u8 0, .int .u8 0, .int .u8 0, .int .u8 0, .int .u8 0, .int .u8 0, .int .u8 0, .int .u8 0, .int .u8 0, .int .u8 0, .int .u8 0, .int .u8 0, .int .u8 0, .int .i64 1]
def ckOf (t0 t1 t2 : TypeId) (g : Nat) : Ck := Nat.rec (.ro t0 vtxA) (fun m _ => Nat.rec (.ro t1 (av32 tabK)) (fun _ _ => .ro t2 vtxA) m) g
def M0 (t0 t1 t2 : TypeId) : Mem := .node (.node .nil (some (.ro t1 (av32 tabK))) .nil) (some (.ro t0 vtxA)) (.node .nil (some (.ro t2 vtxA)) .nil)
def ρ0 : Env := .of [(0, 0, 0), (1, 0, 0), (2, 0, 0)]
theorem M0_get {t0 t1 t2 : TypeId} {i : Nat} {ck : Ck} (h : (M0 t0 t1 t2).get i = some ck) : (i = 0 ∧ ck = .ro t0 vtxA) ∨ (i = 1 ∧ ck = .ro t1 (av32 tabK)) ∨ (i = 2 ∧ ck = .ro t2 vtxA) := by
  unfold M0 at h
  rw [Tr.get_node] at h
  split at h
  · cases h; exact .inl ⟨by assumption, rfl⟩
  · split at h
    · rw [Tr.get_node] at h
      split at h
      · cases h; exact .inr (.inl ⟨by omega, rfl⟩)
      · split at h <;> cases h
    · rw [Tr.get_node] at h
      split at h
      · cases h; exact .inr (.inr ⟨by omega, rfl⟩)
      · split at h <;> cases h

theorem vtx_ren : RL ρ0 vtxA vtxV := show renL ρ0 vtxA = some vtxV by kernel_rfl
theorem rep0 {t0 t1 t2 : TypeId} {f0 f1 f2 : Nat × Nat} {hF : Hp} (h0 : hF 0 = some (.cells ⟨vtxV⟩ t0 f0)) (h1 : hF 1 = some (.cells ⟨u32s tabK⟩ t1 f1)) (h2 : hF 2 = some (.cells ⟨vtxV⟩ t2 f2)) (w : World) (hs : Sat [] hF w) : Rep ρ0 (M0 t0 t1 t2) hF w := by
  obtain ⟨_, _, _, hl, _⟩ := hs
  refine ⟨fun i ck hi => ?_, fun i j ck ck' e e' hi hj ho => ?_, hl⟩
  · rcases M0_get hi with ⟨rfl, rfl⟩ | ⟨rfl, rfl⟩ | ⟨rfl, rfl⟩
    · exact ⟨(0, 0, 0), rfl, ⟨_, f0, vtx_ren, h0, rfl⟩, fun h => by cases h⟩
    · exact ⟨(1, 0, 0), rfl, ⟨_, f1, av32_ren _ _, h1, rfl⟩, fun h => by cases h⟩
    · exact ⟨(2, 0, 0), rfl, ⟨_, f2, vtx_ren, h2, rfl⟩, fun h => by cases h⟩
  · rcases M0_get hi with ⟨rfl, rfl⟩ | ⟨rfl, rfl⟩ | ⟨rfl, rfl⟩ <;> cases ho
theorem glT_ok (g i : Nat) (h : glT g = some i) : ρ0[i]? = some (g, 0, 0) := by
  unfold glT at h
  cases q : Nat.blt g 3 with
  | false => rw [q] at h; cases h
  | true =>
    rw [q] at h; cases h
    rw [Nat.blt_eq] at q
    match g, q with
    | 0, _ => rfl
    | 1, _ => rfl
    | 2, _ => rfl
theorem nobody_run (t0 t1 t2 : TypeId) (s t u : ByteArray) (n : Int) (p q : Option Addr) (n1 c1 n2 c2 : Nat) : callFK tbs (ev pr tbs 100) 6 [.agg [.sym (.string s), .sym (.int .i64 n), .sym (.string t), .sym (.slice p n1 c1), .sym (.slice q n2 c2)], .sym (.string u)] (M0 t0 t1 t2) 3 isTrue = true := by kernel_rfl
end
end Go.Ev
