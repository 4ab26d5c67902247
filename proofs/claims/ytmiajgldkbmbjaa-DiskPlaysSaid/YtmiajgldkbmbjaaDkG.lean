/- The disk's Pending, Sure, Clone. -/
import Derived.Test.YtmiajgldkbmbjaaDkF
namespace Go.Dk
open Go Go.Sl
attribute [local irreducible] GK GO Yl Wt Ef Hd GH KH wpList Code.wp Sat pt FnOk Rd bodyPost Ret Exit.then Exit.inBlock Exit.noGoto exs Int.decLt Int.decLe Int.instDecidableEq

variable {d : Nat} {D : DM} {hF : Hp}
def ats (l : List (Nat × List UInt8)) : List Int := l.map fun p => (p.1 : Int)
theorem i64s_length (l : List Int) : (i64s l).length = l.length := by simp [i64s]
theorem ats_length (l : List (Nat × List UInt8)) : (ats l).length = l.length := by simp [ats]
/-- Ints in new memory. -/
abbrev irow (v : Value) (l : List Int) : HProp := row v 3 1 l.length (i64s l)
theorem ats_take {l : List (Nat × List UInt8)} {i : Nat} {p : Nat × List UInt8} (h : l[i]? = some p) : ats (l.take (i + 1)) = ats (l.take i) ++ [(p.1 : Int)] := by
  rw [List.take_add_one, h]; simp [ats]

theorem pending_ok : FnOk Go.Proofs.Try.prog 13 [dptr d] [dk d D] hF (fun v Γ => ∃ p c, v = .slice p D.pend.length c ∧ Γ = [irow v (ats D.pend), dk d D]) := by
  refine FnOk.intro 24 Go.Proofs.Try.func13 rfl rfl fun w0 => ?_
  refine GK.opens 0 rfl fun x hx => ?_
  obtain ⟨xs, xsc, xst, xsz, xpp, xpc, xm, xl⟩ := x
  have hcnt := hx.ok.count
  (repeat (first | refine GK.run ?_ | (refine GK.box ?_; intro bl) | (refine GK.mkMap ?_; intro bm) | (refine GK.build0 tb ?_; intro bs)))
  refine GL.cons ?_
  refine GO.call [0] (fun hF' _ _ => none_ok hx.ok.pos) .none (by kernel_rfl) rfl rfl rfl ?_
  rintro v Γ' ⟨rfl, rfl⟩
  (repeat (first | refine GK.run ?_ | (refine GK.box ?_; intro bl) | (refine GK.mkMap ?_; intro bm) | (refine GK.build0 tb ?_; intro bs)))
  refine GK.weak (by repeat (first | exact trivial | refine ⟨rfl, ?_⟩)) (fun w s => ?_) (G.loop (fun x : Nat × Option Addr × Nat => D.pend.length - x.1)
    (fun x => [(3, .slice x.2.1 x.1 x.2.2), (11, .slice xpp D.pend.length xpc), (12, .int .i64 D.pend.length), (13, .int .i64 x.1)])
    (fun x => [irow (.slice x.2.1 x.1 x.2.2) (ats (D.pend.take x.1)), dblk d (dcells (some ⟨xs, 0, none⟩) D.sure.length xsc xpp D.pend.length xpc xm D.off D.armed D.plan D.opn), blk xs 66 xsz (flat D.sure ++ xst), row (.slice xpp D.pend.length xpc) 68 257 D.pend.length (flatP D.pend), mp xm xl])
    (fun x => x.1 ≤ D.pend.length) (fun x hi => ?_) (0, none, 0) (Nat.zero_le _))
  · exact (s.sel [0, 0, 0, 0] rfl).row_nil
  obtain ⟨i, op, oc⟩ := x
  replace hi : i ≤ D.pend.length := hi
  have hlen : (ats (D.pend.take i)).length = i := by rw [ats_length, List.length_take]; omega
  rw [show irow (.slice op i oc) (ats (D.pend.take i)) = row (.slice op i oc) 3 1 i (i64s (ats (D.pend.take i))) from by rw [irow, hlen]]
  (repeat (first | refine GK.run ?_ | (refine GK.box ?_; intro bl) | (refine GK.mkMap ?_; intro bm) | (refine GK.build0 tb ?_; intro bs)))
  refine G.cond rfl (fun h1 => ?_) (fun h1 => ?_)
  · have h1 : i < D.pend.length := by simpa using h1
    obtain ⟨p, hp⟩ : ∃ p, D.pend[i]? = some p := ⟨_, List.getElem?_eq_getElem h1⟩
    have hpe := hx.ok.pend p (List.mem_of_getElem? hp)
    refine GK.openRow 3 rfl (by omega) fun b tail fz hp' hc ht hxs hf => ?_
    subst hp'
    have hA : At (flatP D.pend ++ tail) (i * 257) (.int .i64 p.1 :: u8s p.2) := flatP_at (fun p hp => (hx.ok.pend p hp).2) hp _
    have hAl : (Value.int .i64 p.1 :: u8s p.2).length = 257 := by simp [hpe.2]
    rw [← Nat.zero_add (i * 257)] at hA
    (repeat (first | refine GK.run ?_ | (refine GK.box ?_; intro bl) | (refine GK.mkMap ?_; intro bm) | (refine GK.build0 tb ?_; intro bs)))
    refine GL.cons ?_; refine Gt.allocAny tb (by first | exact Wt.none | exact Wt.some rfl rfl (by first | exact rfl | decide +kernel)) (by exact rfl) (by exact rfl) ?_
    intro b1 l1 hl1
    (repeat (first | refine GK.run ?_ | (refine GK.box ?_; intro bl) | (refine GK.mkMap ?_; intro bm) | (refine GK.build0 tb ?_; intro bs)))
    refine GL.cons ?_
    refine Gt.storeAny tb 0 .none rfl rfl rfl hAl (cons_one rfl (u8s_one _)) rfl hl1 ?_
    (repeat (first | refine GK.run ?_ | (refine GK.box ?_; intro bl) | (refine GK.mkMap ?_; intro bm) | (refine GK.build0 tb ?_; intro bs)))
    refine GL.cons ?_; refine Gt.buildLit tb (sz := 0) (n := 0) (by first | exact Wt.none | exact Wt.some rfl rfl (by first | exact rfl | decide +kernel)) rfl rfl (by kernel_rfl) rfl rfl rfl rfl rfl rfl ?_
    intro bx
    (repeat (first | refine GK.run ?_ | (refine GK.box ?_; intro bl) | (refine GK.mkMap ?_; intro bm) | (refine GK.build0 tb ?_; intro bs)))
    refine GL.cons ?_; refine Gt.append tb 3 (by first | exact Wt.none | exact Wt.some rfl rfl (by first | exact rfl | decide +kernel)) rfl (.inl ⟨_, rfl⟩) rfl rfl rfl rfl rfl (Src.slice (m := 1) (Rd.blk 0 rfl) (At.all _) rfl (one_of_all rfl)) (by omega) (by omega) ?_
    intro np nc
    (repeat (first | refine GK.run ?_ | (refine GK.box ?_; intro bl) | (refine GK.mkMap ?_; intro bm) | (refine GK.build0 tb ?_; intro bs)))
    refine GQ.again (i + 1, np, nc) h1 (by show _ - (i + 1) < _ - i; omega) (by repeat (first | exact trivial | refine ⟨rfl, ?_⟩)) (fun w s => ?_)
    have s := s.sel [3, 0, 2, 2, 2] rfl
    have s := (s.row_blk hc ht hxs hf).sel [1, 1, 1, 0, 0] rfl
    have e : irow (.slice np (i + 1) nc) (ats (D.pend.take (i + 1))) = row (.slice np (i + 1) nc) 3 1 (i + 1) (i64s (ats (D.pend.take i)) ++ [.int .i64 p.1]) := by rw [irow, ats_take hp]; simp [hlen, i64s]
    show Sat (irow (.slice np (i + 1) nc) (ats (D.pend.take (i + 1))) :: _) _ _
    rw [e]; exact s
  · have h1 : i = D.pend.length := by simp at h1; omega
    subst h1
    (repeat (first | refine GK.run ?_ | (refine GK.box ?_; intro bl) | (refine GK.mkMap ?_; intro bm) | (refine GK.build0 tb ?_; intro bs)))
    rw [List.take_length]
    refine GK.heap (Γ' := [irow (.slice op D.pend.length oc) (ats D.pend), dk d D]) (fun w s => ?_) (GQ.end1 rfl rfl ⟨_, _, rfl, rfl⟩)
    show Sat (row _ _ 1 (ats D.pend).length _ :: _) _ _
    rw [ats_length]
    exact (shut_dk hx (s.sel [1, 1, 1, 1, 0] rfl)).sel [1, 0] rfl

/-- Byte slices in new memory, behind one another. -/
def brows (vs : List Value) (l : List (List UInt8)) : HProp := star (List.zipWith brow vs l)
/-- A slice of byte slices in new memory. -/
def rows (v : Value) (n : Nat) (l : List (List UInt8)) : HProp := exs (fun vs : List Value => vs.length = n ∧ l.length = n) (fun vs => [row v 32 1 n vs, brows vs l])
theorem brows_push {vs : List Value} {l : List (List UInt8)} {v : Value} {b : List UInt8} {Γ : List HProp} {hF : Hp} {w : World} (hl : vs.length = l.length) (h : Sat (brow v b :: brows vs l :: Γ) hF w) : Sat (brows (vs ++ [v]) (l ++ [b]) :: Γ) hF w := by
  have := Sat.star_push h
  rw [brows, List.zipWith_append hl]
  exact this

theorem sure_ok : FnOk Go.Proofs.Try.prog 10 [dptr d] [dk d D] hF (fun v Γ => ∃ p c, v = .slice p D.sure.length c ∧ Γ = [rows v D.sure.length D.sure, dk d D]) := by
  refine FnOk.intro 25 Go.Proofs.Try.func10 rfl rfl fun w0 => ?_
  refine GK.opens 0 rfl fun x hx => ?_
  obtain ⟨xs, xsc, xst, xsz, xpp, xpc, xm, xl⟩ := x
  have hcnt := hx.ok.count
  have hcn2 := hx.ok.le
  (repeat (first | refine GK.run ?_ | (refine GK.box ?_; intro bl) | (refine GK.mkMap ?_; intro bm) | (refine GK.build0 tb ?_; intro bs)))
  refine GL.cons ?_
  refine GO.call [0] (fun hF' _ _ => none_ok hx.ok.pos) .none (by kernel_rfl) rfl rfl rfl ?_
  rintro v Γ' ⟨rfl, rfl⟩
  (repeat (first | refine GK.run ?_ | (refine GK.box ?_; intro bl) | (refine GK.mkMap ?_; intro bm) | (refine GK.build0 tb ?_; intro bs)))
  refine GK.weak (by repeat (first | exact trivial | refine ⟨rfl, ?_⟩)) (fun w s => ?_) (G.loop (fun x : Nat × Option Addr × Nat => D.sure.length - x.1)
    (fun x => [(3, .slice x.2.1 x.1 x.2.2), (11, .slice (some ⟨xs, 0, none⟩) D.sure.length xsc), (12, .int .i64 D.sure.length), (13, .int .i64 x.1)])
    (fun x => [rows (.slice x.2.1 x.1 x.2.2) x.1 (D.sure.take x.1), dblk d (dcells (some ⟨xs, 0, none⟩) D.sure.length xsc xpp D.pend.length xpc xm D.off D.armed D.plan D.opn), blk xs 66 xsz (flat D.sure ++ xst), row (.slice xpp D.pend.length xpc) 68 257 D.pend.length (flatP D.pend), mp xm xl])
    (fun x => x.1 ≤ D.sure.length) (fun x hi => ?_) (0, none, 0) (Nat.zero_le _))
  · exact Sat.shut [] ⟨rfl, rfl⟩ ((s.sel [0, 0, 0, 0] rfl).star_nil.row_nil)
  obtain ⟨i, op, oc⟩ := x
  replace hi : i ≤ D.sure.length := hi
  (repeat (first | refine GK.run ?_ | (refine GK.box ?_; intro bl) | (refine GK.mkMap ?_; intro bm) | (refine GK.build0 tb ?_; intro bs)))
  refine G.cond rfl (fun h1 => ?_) (fun h1 => ?_)
  · have h1 : i < D.sure.length := by simpa using h1
    obtain ⟨b, hb⟩ : ∃ b, D.sure[i]? = some b := ⟨_, List.getElem?_eq_getElem h1⟩
    have hbl := hx.ok.size b (List.mem_of_getElem? hb)
    have hA := flat_at hx.ok.size hb xst
    have hAl : (u8s b).length = 256 := by simp [hbl]
    rw [← Nat.zero_add (i * 256)] at hA
    (repeat (first | refine GK.run ?_ | (refine GK.box ?_; intro bl) | (refine GK.mkMap ?_; intro bm) | (refine GK.build0 tb ?_; intro bs)))
    refine GL.cons ?_; refine Gt.allocAny tb (by first | exact Wt.none | exact Wt.some rfl rfl (by first | exact rfl | decide +kernel)) (by exact rfl) (by exact rfl) ?_
    intro b1 l1 hl1
    (repeat (first | refine GK.run ?_ | (refine GK.box ?_; intro bl) | (refine GK.mkMap ?_; intro bm) | (refine GK.build0 tb ?_; intro bs)))
    refine GL.cons ?_
    refine Gt.storeAny tb 0 .none rfl rfl rfl hAl (u8s_one _) rfl hl1 ?_
    refine GK.opens 1 rfl fun vs hvs => ?_
    (repeat (first | refine GK.run ?_ | (refine GK.box ?_; intro bl) | (refine GK.mkMap ?_; intro bm) | (refine GK.build0 tb ?_; intro bs)))
    refine GL.cons ?_
    refine Gt.append tb 0 .none rfl (.inl ⟨_, rfl⟩) rfl rfl rfl rfl rfl (Src.slice (m := 256) (Rd.blk 3 rfl) (At.all _) (by simp [hbl]) (u8s_one _)) (by omega) (by omega) ?_
    intro np nc
    (repeat (first | refine GK.run ?_ | (refine GK.box ?_; intro bl) | (refine GK.mkMap ?_; intro bm) | (refine GK.build0 tb ?_; intro bs)))
    refine GL.cons ?_; refine Gt.buildLit tb (sz := 0) (n := 0) (by first | exact Wt.none | exact Wt.some rfl rfl (by first | exact rfl | decide +kernel)) rfl rfl (by kernel_rfl) rfl rfl rfl rfl rfl rfl ?_
    intro bx
    (repeat (first | refine GK.run ?_ | (refine GK.box ?_; intro bl) | (refine GK.mkMap ?_; intro bm) | (refine GK.build0 tb ?_; intro bs)))
    refine GL.cons ?_; refine Gt.append tb 2 (by first | exact Wt.none | exact Wt.some rfl rfl (by first | exact rfl | decide +kernel)) rfl (.inl ⟨_, rfl⟩) rfl rfl rfl rfl rfl (Src.slice (m := 1) (Rd.blk 0 rfl) (At.all _) rfl (one_of_all rfl)) (by omega) (by omega) ?_
    intro np2 nc2
    (repeat (first | refine GK.run ?_ | (refine GK.box ?_; intro bl) | (refine GK.mkMap ?_; intro bm) | (refine GK.build0 tb ?_; intro bs)))
    refine GQ.again (i + 1, np2, nc2) h1 (by show _ - (i + 1) < _ - i; omega) (by repeat (first | exact trivial | refine ⟨rfl, ?_⟩)) (fun w s => ?_)
    have s := s.sel [2, 2, 0, 2, 2, 2, 2] rfl
    have hr : row (.slice np (0 + 256) nc) 5 1 (0 + 256) ([] ++ u8s b) = brow (.slice np 256 nc) b := by simp [brow, hbl]
    rw [hr] at s
    have hvl : vs.length = (D.sure.take i).length := by rw [hvs.1, hvs.2]
    have s := (brows_push hvl s).sel [1, 0, 0, 0, 0, 0] rfl
    have e : D.sure.take (i + 1) = D.sure.take i ++ [b] := by rw [List.take_add_one, hb]; rfl
    show Sat (rows (.slice np2 (i + 1) nc2) (i + 1) (D.sure.take (i + 1)) :: _) _ _
    rw [e]
    exact Sat.shut (vs ++ [Value.slice np 256 nc]) ⟨by simp [hvs.1], by simp [hvs.2]⟩ s
  · have h1 : i = D.sure.length := by simp at h1; omega
    subst h1
    (repeat (first | refine GK.run ?_ | (refine GK.box ?_; intro bl) | (refine GK.mkMap ?_; intro bm) | (refine GK.build0 tb ?_; intro bs)))
    rw [List.take_length]
    exact GK.heap (Γ' := [rows (.slice op D.sure.length oc) D.sure.length D.sure, dk d D]) (fun w s => (shut_dk hx (s.sel [1, 1, 1, 1, 0] rfl)).sel [1, 0] rfl) (GQ.end1 rfl rfl ⟨_, _, rfl, rfl⟩)

theorem flat_one {l : List (List UInt8)} : ∀ u ∈ flat l, u.oneCell' = true := by
  intro u hu
  obtain ⟨a, _, hu⟩ := List.mem_flatMap.1 hu
  exact u8s_one a u hu
theorem flatP_one {l : List (Nat × List UInt8)} : ∀ u ∈ flatP l, u.oneCell' = true := by
  intro u hu
  obtain ⟨a, _, hu⟩ := List.mem_flatMap.1 hu
  exact cons_one rfl (u8s_one a.2) u hu
/-- The places of the last pending writes, as a clone makes them anew. -/
def lasts (l : List (Nat × List UInt8)) : List (Int × Value) := l.zipIdx.foldl (fun es x => mset es (x.1.1 : Int) (.int .i64 (((x.2 : Nat) : Int) + 1))) []
theorem lasts_snoc (l : List (Nat × List UInt8)) (p : Nat × List UInt8) : lasts (l ++ [p]) = mset (lasts l) (p.1 : Int) (.int .i64 ((l.length : Int) + 1)) := by
  simp [lasts, List.zipIdx_append, List.foldl_append]
theorem lasts_get (l : List (Nat × List UInt8)) : ∀ t : Int, mget (lasts l) t = (lastIx l t).map fun (j : Nat) => Value.int .i64 ((j : Int) + 1) := by
  refine snoc_ind (P := fun l => ∀ t : Int, mget (lasts l) t = (lastIx l t).map fun (j : Nat) => Value.int .i64 ((j : Int) + 1)) (fun t => rfl) (fun l p ih t => ?_) l
  rw [lasts_snoc, mget_mset, lastIx_snoc]
  by_cases e : t = (p.1 : Int)
  · subst e; simp
  · rw [if_neg e, if_neg (fun h => e h.symm)]; exact ih t

theorem clone_ok : FnOk Go.Proofs.Try.prog 19 [dptr d] [dk d D] hF (fun v Γ => ∃ d', v = dptr d' ∧ Γ = [dk d' D, dk d D]) := by
  refine FnOk.intro 42 Go.Proofs.Try.func19 rfl rfl fun w0 => ?_
  refine GK.opens 0 rfl fun x hx => ?_
  obtain ⟨xs, xsc, xst, xsz, xpp, xpc, xm, xl⟩ := x
  have hcnt := hx.ok.count
  have hcn2 := hx.ok.le
  have hfl := flat_length hx.ok.size
  have hpl : (flatP D.pend).length = D.pend.length * 257 := flatP_length fun p hp => (hx.ok.pend p hp).2
  (repeat (first | refine GK.run ?_ | (refine GK.box ?_; intro bl) | (refine GK.mkMap ?_; intro bm) | (refine GK.build0 tb ?_; intro bs)))
  refine GL.cons ?_
  refine GO.call [0] (fun hF' _ _ => none_ok hx.ok.pos) .none (by kernel_rfl) rfl rfl rfl ?_
  rintro v Γ' ⟨rfl, rfl⟩
  (repeat (first | refine GK.run ?_ | (refine GK.box ?_; intro bl) | (refine GK.mkMap ?_; intro bm) | (refine GK.build0 tb ?_; intro bs)))
  refine GL.cons ?_; refine Gt.allocAny tb (by first | exact Wt.none | exact Wt.some rfl rfl (by first | exact rfl | decide +kernel)) (by exact rfl) (by exact rfl) ?_
  intro b1 l1 hl1
  (repeat (first | refine GK.run ?_ | (refine GK.box ?_; intro bl) | (refine GK.mkMap ?_; intro bm) | (refine GK.build0 tb ?_; intro bs)))
  refine GL.cons ?_
  refine Gt.storeAny tb 0 .none rfl rfl rfl rfl (one_of_all rfl) rfl hl1 ?_
  (repeat (first | refine GK.run ?_ | (refine GK.box ?_; intro bl) | (refine GK.mkMap ?_; intro bm) | (refine GK.build0 tb ?_; intro bs)))
  refine GL.cons ?_
  refine Gt.append0 tb 0 .none rfl (.inl ⟨_, rfl⟩) rfl rfl rfl rfl rfl (Src.slice (m := D.sure.length) (Rd.blk 3 rfl) (At.front _ _) hfl flat_one) (by omega) (by omega) ?_
  intro np nc
  (repeat (first | refine GK.run ?_ | (refine GK.box ?_; intro bl) | (refine GK.mkMap ?_; intro bm) | (refine GK.build0 tb ?_; intro bs)))
  refine GL.cons ?_
  refine Gt.append0 tb 0 .none rfl (.inl ⟨_, rfl⟩) rfl rfl rfl rfl rfl (Src.row (n := D.pend.length) 5 rfl hpl flatP_one) (by omega) (by omega) ?_
  intro np2 nc2
  (repeat (first | refine GK.run ?_ | (refine GK.box ?_; intro bl) | (refine GK.mkMap ?_; intro bm) | (refine GK.build0 tb ?_; intro bs)))
  refine GK.weak (by repeat (first | exact trivial | refine ⟨rfl, ?_⟩)) (fun w s => ?_) (G.loop (fun i : Nat => D.pend.length - i)
    (fun i => [(3, .pointer (some ⟨b1, 0, none⟩)), (28, .slice np2 D.pend.length nc2), (29, .int .i64 D.pend.length), (30, .int .i64 i)])
    (fun i => [blk b1 61 (0, 0) (dcells np D.sure.length nc np2 D.pend.length nc2 bm D.off D.armed D.plan D.opn), row (.slice np D.sure.length nc) 66 256 D.sure.length (flat D.sure), row (.slice np2 D.pend.length nc2) 68 257 D.pend.length (flatP D.pend), mp bm (lasts (D.pend.take i)), dk d D])
    (fun i => i ≤ D.pend.length) (fun i hi => ?_) 0 (Nat.zero_le _))
  · have s := (shut_dk hx (s.sel [4, 4, 4, 4, 0, 2, 1, 0] rfl)).sel [1, 1, 1, 1, 0] rfl
    exact (s.mp_new (α := Int)).sel [1, 1, 1, 0, 0] rfl
  (repeat (first | refine GK.run ?_ | (refine GK.box ?_; intro bl) | (refine GK.mkMap ?_; intro bm) | (refine GK.build0 tb ?_; intro bs)))
  refine G.cond rfl (fun h1 => ?_) (fun h1 => ?_)
  · have h1 : i < D.pend.length := by simpa using h1
    obtain ⟨p, hp⟩ : ∃ p, D.pend[i]? = some p := ⟨_, List.getElem?_eq_getElem h1⟩
    have hpe := hx.ok.pend p (List.mem_of_getElem? hp)
    refine GK.openRow 2 rfl (by omega) fun b tail fz hp' hc ht hxs hf => ?_
    subst hp'
    have hA : At (flatP D.pend ++ tail) (i * 257) (.int .i64 p.1 :: u8s p.2) := flatP_at (fun p hp => (hx.ok.pend p hp).2) hp _
    have hAl : (Value.int .i64 p.1 :: u8s p.2).length = 257 := by simp [hpe.2]
    rw [← Nat.zero_add (i * 257)] at hA
    (repeat (first | refine GK.run ?_ | (refine GK.box ?_; intro bl) | (refine GK.mkMap ?_; intro bm) | (refine GK.build0 tb ?_; intro bs)))
    refine GL.cons ?_; refine Gt.allocAny tb (by first | exact Wt.none | exact Wt.some rfl rfl (by first | exact rfl | decide +kernel)) (by exact rfl) (by exact rfl) ?_
    intro b2 l2 hl2
    (repeat (first | refine GK.run ?_ | (refine GK.box ?_; intro bl) | (refine GK.mkMap ?_; intro bm) | (refine GK.build0 tb ?_; intro bs)))
    refine GL.cons ?_
    refine Gt.storeAny tb 0 .none rfl rfl rfl hAl (cons_one rfl (u8s_one _)) rfl hl2 ?_
    (repeat (first | refine GK.run ?_ | (refine GK.box ?_; intro bl) | (refine GK.mkMap ?_; intro bm) | (refine GK.build0 tb ?_; intro bs)))
    refine GL.cons ?_
    refine GO.mapUpdate (α := Int) (a := (p.1 : Int)) 4 .none (.int rfl) rfl rfl rfl rfl rfl ?_
    (repeat (first | refine GK.run ?_ | (refine GK.box ?_; intro bl) | (refine GK.mkMap ?_; intro bm) | (refine GK.build0 tb ?_; intro bs)))
    refine GQ.again (i + 1) (by omega) (by omega) (by repeat (first | exact trivial | refine ⟨rfl, ?_⟩)) (fun w s => ?_)
    have s := s.sel [1, 1, 1, 1, 1] rfl
    have s := (s.row_blk hc ht hxs hf).sel [1, 1, 0, 0, 0] rfl
    have e : lasts (D.pend.take (i + 1)) = mset (lasts (D.pend.take i)) (p.1 : Int) (.int .i64 ((i : Int) + 1)) := by
      rw [List.take_add_one, hp, Option.toList, lasts_snoc, List.length_take, show min i D.pend.length = i from by omega]
    rw [e]
    exact s
  · have h1 : i = D.pend.length := by simp at h1; omega
    subst h1
    (repeat (first | refine GK.run ?_ | (refine GK.box ?_; intro bl) | (refine GK.mkMap ?_; intro bm) | (refine GK.build0 tb ?_; intro bs)))
    rw [List.take_length]
    refine GK.openRow 1 rfl hx.ok.pos fun b tail fz hp' hc ht hxs hf => ?_
    subst hp'
    exact GK.heap (Γ' := [dk b1 D, dk d D]) (fun w s => shut_dk (x := ⟨b, nc, tail, fz, np2, nc2, bm, lasts D.pend⟩) ⟨hx.ok, hc, ht, hf, lasts_get _⟩ (s.sel [1, 0, 0, 0, 0] rfl)) (GQ.end1 rfl rfl ⟨_, rfl, rfl⟩)
end Go.Dk
