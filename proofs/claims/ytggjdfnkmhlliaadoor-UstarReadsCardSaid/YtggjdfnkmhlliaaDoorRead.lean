/- Contract of Read. -/
import Derived.Test.YtggjdfnkmhlliaaDoorRd1
import Derived.Deep.RegionHeld3
namespace Go.Proofs.YtggjdfnkmhlliaaDoor.Walks
open Go Go.RowKit Go.Proofs.YtggjdfnkmhlliaaDoor.Aid Go.Proofs.YtggjdfnkmhlliaaDoor.Own Go.Proofs.YtggjdfnkmhlliaaDoorW.PrintWords

/-- A header. -/
structure Hdr where
  name : Str
  pre : Str
  target : Str
  mode : Int
  uid : Int
  gid : Int
  size : Int
  time : Int
  type : UInt8
  user : Str
  group : Str
deriving DecidableEq
def hdr0 : Hdr := ⟨[], [], [], 0, 0, 0, 0, 0, 0, [], []⟩
def hrow (H : Hdr) : Array Value := #[.string (B H.name), .string (B H.pre), .string (B H.target), .int .i64 H.mode, .int .i64 H.uid, .int .i64 H.gid, .int .i64 H.size, .int .i64 H.time, .int .u8 (H.type.toNat : Int), .string (B H.user), .string (B H.group)]
def hval (H : Hdr) : Value := .agg (hrow H)
def numsOk (b : Str) : Bool := decide ((octL (sub b 100 8)).2 = 0) && decide ((octL (sub b 108 8)).2 = 0) && decide ((octL (sub b 116 8)).2 = 0) && decide ((octL (sub b 124 12)).2 = 0) && decide ((octL (sub b 136 12)).2 = 0)
def hdrOf (b : Str) : Hdr := ⟨upTo0 (sub b 0 100), upTo0 (sub b 345 155), upTo0 (sub b 157 100), (octL (sub b 100 8)).1, (octL (sub b 108 8)).1, (octL (sub b 116 8)).1, (octL (sub b 124 12)).1, (octL (sub b 136 12)).1, b.getD 156 0, upTo0 (sub b 265 32), upTo0 (sub b 297 32)⟩
def magic : Str := [117, 115, 116, 97, 114, 0, 48, 48]
def headOk (b : Str) : Bool := decide (sub b 257 8 = magic) && decide ((octL (sub b 148 8)).2 = 0) && decide ((octL (sub b 148 8)).1 = sumOf b)
def readL (l : Str) : Hdr × Int := if l.length < 512 then (hdr0, 5) else if (headOk (l.take 512) && numsOk (l.take 512)) = true then (hdrOf (l.take 512), 0) else (hdr0, 2)
def ReadPost (r : Hdr × Int) (w : World) (x : Ending) (w' : World) : Prop := x = .returned (.tuple #[hval r.1, .int .i64 r.2]) ∧ Only (fun _ => False) w w'
theorem info24 : (Tryd.prog.info? 24).map (·.size) = some 11 := by kernel_rfl
theorem row24 : ∃ fs, Tryd.prog.underlying 24 = some (.struct fs) := ⟨_, Tryd.underlying24⟩
theorem load24 {w : World} {g : Nat} {H : Hdr} (h : w.heap[g]? = some (.cells (hrow H) 24 (0, 0))) : (loadVar 24 ⟨g, 0, none⟩).run Tryd.prog w = .ok (hval H) w := by
  obtain ⟨fs, hf⟩ := row24
  exact run_loadVar_row (P := Tryd.prog) w g 24 24 (hrow H) (0, 0) _ h hf rfl info24
theorem results_hdr {fn : Func} {t s : Tmp} (h : fn.results = #[.cell t 24, .tmp s]) {tmps : Array Value} {w : World} {g : Nat} {H : Hdr} {v : Value} (ha : tmps.getD t undef = .pointer (some ⟨g, 0, none⟩)) (hv : tmps.getD s undef = v)
    (hl : w.heap[g]? = some (.cells (hrow H) 24 (0, 0))) : (results fn tmps).run Tryd.prog w = .ok (.tuple #[hval H, v]) w := by
  have ha' : tmps[t]?.getD undef = .pointer (some ⟨g, 0, none⟩) := by simpa using ha
  have hv' : tmps[s]?.getD undef = v := by simpa using hv
  simp [results, h, asAddr, ha', hv', load24 hl]
set_option maxHeartbeats 800000 in
theorem read_short {w : World} {A : Option Addr} {l : Str} {n c : Nat} (hn : l.length = n) (h : n < 512) : Calls Tryd.prog 11 #[.slice A n c] w (ReadPost (readL l) w) := by
  have HR := Lib.hid (show readL l = (hdr0, 5) from if_pos (by omega))
  have d1 : decide ((n : Int) < 512) = true := decide_eq_true (by omega)
  have d1' : decide (n < 512) = true := decide_eq_true h
  go_enter Tryd.func11, Tryd.ntmps11
  go_wp2_with fail
  refine bodyPost_ret (results_hdr (H := hdr0) rfl rfl rfl (by have := alloc_new (w.alloc (.cells #[.slice A n c] 22)) (.cells (hrow hdr0) 24); rwa [alloc_size] at this)) rfl ⟨by rw [HR.out]; rfl, ((Only.refl _ w).alloc _).alloc _⟩
section
variable {ops : Array Oper} {rest : List Oper} {o : Oper} {a : Act} {Q : Exit → Act → World → Prop}
theorem gate_store {w : World} (n : Nat) {x y : Operand} (_ho : o.op = .store n x y) (h : wpList Tryd.prog ops Q (o :: rest) a w) : wpList Tryd.prog ops Q (o :: rest) a w := h
/-- A header is stored whole. -/
theorem store_hdr {W : World} (hgd : o.guard = none) {g : Nat} {H0 : Hdr} (H : Hdr) (x y : Operand) (ho : o.op = .store 24 x y) (hx : a.eval x = .pointer (some ⟨g, 0, none⟩)) (hy : a.eval y = hval H) (hb : W.heap[g]? = some (.cells (hrow H0) 24 (0, 0)))
    (h : ∀ w1, w1.heap[g]? = some (.cells (hrow H) 24 (0, 0)) → Only (fun k => k = g) W w1 → wpList Tryd.prog ops Q rest (a.put o.dst undef) w1) : wpList Tryd.prog ops Q (o :: rest) a W := by
  refine wpList_store_row hgd 24 x y ho g (hrow H) hx hy 24 (hrow H0) hb info24 rfl (by simp [hrow, Value.oneCell']) (h _ (setRow_heap W g (hrow H0) (hrow H) 24 _ hb) ?_)
  exact ⟨rfl, rfl, rfl, by simp, fun i _ hn => setRow_other W g i (hrow H) hn⟩
theorem load_hdr {W : World} (hgd : o.guard = none) {g : Nat} {H : Hdr} (x : Operand) (ho : o.op = .load 24 x) (hx : a.eval x = .pointer (some ⟨g, 0, none⟩)) (hb : W.heap[g]? = some (.cells (hrow H) 24 (0, 0))) (h : wpList Tryd.prog ops Q rest (a.put o.dst (hval H)) W) : wpList Tryd.prog ops Q (o :: rest) a W :=
  wpList_load_row hgd 24 x ho g hx 24 (hrow H) (0, 0) _ hb Tryd.underlying24 rfl info24 h
/-- A header is stored whole into the block that was just made. -/
theorem store_new {W : World} (hgd : o.guard = none) {H0 : Hdr} (H : Hdr) (x y : Operand) (ho : o.op = .store 24 x y) (hx : a.eval x = .pointer (some ⟨W.heap.size, 0, none⟩)) (hy : a.eval y = hval H)
    (h : ∀ w1, w1.heap[W.heap.size]? = some (.cells (hrow H) 24 (0, 0)) → Only (fun _ => False) W w1 → wpList Tryd.prog ops Q rest (a.put o.dst undef) w1) : wpList Tryd.prog ops Q (o :: rest) a (W.alloc (.cells (hrow H0) 24)) :=
  store_hdr hgd H x y ho hx hy (alloc_new W _) fun w1 h1 h2 => h w1 h1 (((Only.refl (fun _ => False) W).alloc _).trans h2 (fun k hk => Or.inr (by rw [hk]; exact Nat.le_refl _)))
end
theorem add_pos (ad : Addr) {a : Nat} (h : 0 < a) : ad.add a = ⟨ad.block, ad.off + a, none⟩ := by
  unfold Addr.add
  rw [if_neg (by omega)]
theorem str_sub {w : World} {ad : Addr} {l : Str} (a n c : Nat) (ha : 0 < a) (h : RdU w (some ad) l) (hn : a + n ≤ l.length) : (convert 22 9 (.slice (some ⟨ad.block, ad.off + a, none⟩) n c)).run Tryd.prog w = .ok (.string (B (sub l a n))) w := by
  rw [← add_pos ad ha]
  exact str_u c (h.sub a n) (sub_len hn)
theorem hold_keep {w u u' : World} {a a' : Addr} {v v' : Value} {A : Option Addr} {l : Str} (h : u.cell? a = some v ∧ u.cell? a' = some v' ∧ RdU u A l ∧ MaxLen u ∧ Only (fun _ => False) w u) (ho : Only (fun _ => False) u u') : u'.cell? a = some v ∧ u'.cell? a' = some v' ∧ RdU u' A l ∧ MaxLen u' ∧ Only (fun _ => False) w u' :=
  ⟨ho.cell h.1 id, ho.cell h.2.1 id, h.2.2.1.only ho, h.2.2.2.1.only ho, h.2.2.2.2.trans' ho⟩
theorem hold_drewN {w u : World} {a a' : Addr} {v v' : Value} {A : Option Addr} {l : Str} {k : Nat} (h : u.cell? a = some v ∧ u.cell? a' = some v' ∧ RdU u A l ∧ MaxLen u ∧ Only (fun _ => False) w u) : (u.drewN k).cell? a = some v ∧ (u.drewN k).cell? a' = some v' ∧ RdU (u.drewN k) A l ∧ MaxLen (u.drewN k) ∧ Only (fun _ => False) w (u.drewN k) := hold_keep h ((Only.refl _ u).drewN k)
theorem hold_keep2 {w u u' : World} {a a' : Addr} {v v' : Value} {A : Option Addr} {l : Str} (ho : Only (fun _ => False) u u') (h : u.cell? a = some v ∧ u.cell? a' = some v' ∧ RdU u A l ∧ MaxLen u ∧ Only (fun _ => False) w u) : u'.cell? a = some v ∧ u'.cell? a' = some v' ∧ RdU u' A l ∧ MaxLen u' ∧ Only (fun _ => False) w u' := hold_keep h ho
theorem hold_alloc {w u : World} {a a' : Addr} {v v' : Value} {A : Option Addr} {l : Str} {o : Obj} (h : u.cell? a = some v ∧ u.cell? a' = some v' ∧ RdU u A l ∧ MaxLen u ∧ Only (fun _ => False) w u) : (u.alloc o).cell? a = some v ∧ (u.alloc o).cell? a' = some v' ∧ RdU (u.alloc o) A l ∧ MaxLen (u.alloc o) ∧ Only (fun _ => False) w (u.alloc o) :=
  hold_keep h ((Only.refl (fun _ => False) u).alloc o)
theorem text_any' {w : World} {ad : Addr} {l : Str} {L c a n : Nat} (hL : l.length = L) (hc : L ≤ c) (h : a + n ≤ L) (h2 : L ≤ 1000000) (h3 : 0 < n) (hR : RdU w (some ad) l) (hm : MaxLen w) : Calls Tryd.prog 25 #[.slice (some ad) L c, .int .i64 (a : Int), .int .i64 (n : Int)] w fun x w' => x = .returned (.string (B (upTo0 (sub l a n)))) ∧ Only (fun _ => False) w w' := by
  refine (text_any a n hL hc h h2 h3 hR hm).mono ?_
  rintro x w' ⟨rfl, k, rfl⟩
  exact ⟨rfl, (Only.refl _ w).drewN k⟩
theorem sv3 (a : Addr) (k : IntKind) (x : Int) (w : World) : (storeVar 3 a (.int k x)).run Tryd.prog w = (store a (.int k x)).run Tryd.prog w := by
  go_simp
theorem sv4 (a : Addr) (x : Bool) (w : World) : (storeVar 4 a (.bool x)).run Tryd.prog w = (store a (.bool x)).run Tryd.prog w := by
  go_simp
theorem sv22 (a : Addr) (A : Option Addr) (n c : Nat) (w : World) : (storeVar 22 a (.slice A n c)).run Tryd.prog w = (store a (.slice A n c)).run Tryd.prog w := by
  go_simp
theorem upon_hdr {o : Oper} {a : Act} {K : Act → World → Prop} {Q : Exit → Act → World → Prop} {W : World} {g B : Nat} {H0 H : Hdr} (hb : W.heap[g]? = some (.cells (hrow H0) 24 (0, 0))) (hB : B ≤ g)
    (h : ∀ w1, w1.heap[g]? = some (.cells (hrow H) 24 (0, 0)) → Only (fun k => k = g) W w1 → B ≤ g → Oper.upon Tryd.prog o a K Q (Result.ok Next.skip w1)) :
    Oper.upon Tryd.prog o a K Q (((storeVar 24 ⟨g, 0, none⟩ (hval H)).run Tryd.prog W).andThen fun _ w' => Result.ok Next.skip w') := by
  have e := run_storeVar_row (P := Tryd.prog) W g 24 24 (hrow H0) (hrow H) hb info24 rfl (by simp [hrow, Value.oneCell'])
  rw [hval, e]
  exact h _ (setRow_heap W g (hrow H0) (hrow H) 24 _ hb) ⟨rfl, rfl, rfl, by simp, fun i _ hn => setRow_other W g i (hrow H) hn⟩ hB
theorem size_step {b : Nat} {v u : World} (ho : Only (fun _ => False) v u) (h : b ≤ v.heap.size) : b ≤ u.heap.size := Nat.le_trans h ho.size
theorem size_alloc {b : Nat} {v : World} {o : Obj} (h : b ≤ v.heap.size) : b ≤ (v.alloc o).heap.size := by rw [alloc_size]; omega
theorem hold_new {w u u' : World} {a a' : Addr} {v v' : Value} {A : Option Addr} {l : Str} {g : Nat} (h : w.cell? a = some v ∧ w.cell? a' = some v' ∧ RdU w A l ∧ MaxLen w ∧ Only (fun _ => False) w w) (ho : Only (fun k => k = g) u u') (hg : w.heap.size ≤ g) (hu : u.cell? a = some v ∧ u.cell? a' = some v' ∧ RdU u A l ∧ MaxLen u ∧ Only (fun _ => False) w u) : u'.cell? a = some v ∧ u'.cell? a' = some v' ∧ RdU u' A l ∧ MaxLen u' ∧ Only (fun _ => False) w u' :=
  hold_keep h (hu.2.2.2.2.trans ho (fun k hk => Or.inr (by rw [hk]; exact hg)))
attribute [-go_sem] storeVar
attribute [local go_sem] sv3 sv4 sv22
theorem alloc_drew (w : World) (o : Obj) : (w.drew.alloc o).heap[w.heap.size]? = some o := alloc_new w.drew o
theorem size0 {w u : World} (h : Only (fun _ => False) w.drew u) : w.heap.size ≤ u.heap.size := h.size
/-- What Read holds while it takes the numbers. -/
def RSt' (w : World) (ad : Addr) (b : Str) (c g1 g6 g7 : Nat) (H : Hdr) (ok : Bool) (u : World) : Prop := RdU w (some ad) b ∧ Only (fun _ => False) w u ∧ u.heap[g1]? = some (.cells #[.slice (some ad) 512 c] 22 (0, 0)) ∧ u.heap[g1 + 1]? = some (.cells (hrow hdr0) 24 (0, 0)) ∧ u.heap[g6]? = some (.cells (hrow H) 24 (0, 0)) ∧ u.heap[g7]? = some (.cells #[.bool ok] 4 (0, 0)) ∧ w.heap.size ≤ g1 + 1 ∧ g1 + 1 < g6 ∧ g6 < g7
theorem rst_start {w u : World} {ad : Addr} {b : Str} {c g1 g6 : Nat} {H : Hdr} (h0 : RdU w (some ad) b) (ho : Only (fun _ => False) w u) (h1 : u.heap[g1]? = some (.cells #[.slice (some ad) 512 c] 22 (0, 0))) (h2 : u.heap[g1 + 1]? = some (.cells (hrow hdr0) 24 (0, 0))) (h6 : u.heap[g6]? = some (.cells (hrow H) 24 (0, 0))) (hg : w.heap.size ≤ g1 + 1) (hg1 : g1 + 1 < g6) (hg6 : g6 < u.heap.size) :
    RSt' w ad b c g1 g6 u.heap.size H true (u.alloc (.cells #[.bool true] 4)) :=
  ⟨h0, ho.alloc _, (alloc_old _ _ (by omega)).trans h1, (alloc_old _ _ (by omega)).trans h2, (alloc_old _ _ hg6).trans h6, alloc_new _ _, hg, hg1, hg6⟩
theorem rst_call {w u : World} {ad : Addr} {b : Str} {c g1 g6 g7 : Nat} {H : Hdr} {ok : Bool} (a n : Nat) (hb : b.length = 512) (hc : 512 ≤ c) (ha : a + n ≤ 512) (hn : 0 < n) (h : RSt' w ad b c g1 g6 g7 H ok u) :
    Calls Tryd.prog 26 #[.int .i64 (a : Int), .int .i64 (n : Int), .pointer (some ⟨g1, 0, none⟩), .pointer (some ⟨g7, 0, none⟩)] u fun x u' => x = .returned (.int .i64 (octL (sub b a n)).1) ∧ RSt' w ad b c g1 g6 g7 H (okOf ok (sub b a n)) u' := by
  obtain ⟨h0, ho, h1, h2, h6, h7, hg, hg1, hg6⟩ := h
  refine (rd1_any a n hb hc ha hn (h0.only ho) h1 h7).mono ?_
  rintro x u' ⟨rfl, h7', ho'⟩
  exact ⟨rfl, h0, ho.trans ho' (fun k hk => Or.inr (by omega)), ho'.keeps h1 (by omega), ho'.keeps h2 (by omega), ho'.keeps h6 (by omega), h7', hg, hg1, hg6⟩
theorem rst_put {w u : World} {ad : Addr} {b : Str} {c g1 g6 g7 : Nat} {H : Hdr} {ok : Bool} (i : Nat) (v : Value) (H' : Hdr) (hH : (hrow H).setIfInBounds i v = hrow H') (h : RSt' w ad b c g1 g6 g7 H ok u) : RSt' w ad b c g1 g6 g7 H' ok (u.setCell ⟨g6, i, none⟩ v) := by
  obtain ⟨h0, ho, h1, h2, h6, h7, hg, hg1, hg6⟩ := h
  have h9 := heap_setCell_same u g6 i (hrow H) 24 v h6
  rw [hH] at h9
  exact ⟨h0, ho.setCell (p := ⟨g6, i, none⟩) (Or.inr (show w.heap.size ≤ g6 by omega)) v, (heap_setCell_other u ⟨g6, i, none⟩ g1 v (show g1 ≠ g6 by omega)).trans h1, (heap_setCell_other u ⟨g6, i, none⟩ (g1 + 1) v (show g1 + 1 ≠ g6 by omega)).trans h2, h9, (heap_setCell_other u ⟨g6, i, none⟩ g7 v (show g7 ≠ g6 by omega)).trans h7, hg, hg1, hg6⟩
def setH (H : Hdr) (i : Nat) (v : Int) : Hdr := match i with
  | 3 => { H with mode := v }
  | 4 => { H with uid := v }
  | 5 => { H with gid := v }
  | 6 => { H with size := v }
  | _ => { H with time := v }
theorem setH_row (H : Hdr) (i : Nat) (v : Int) (h1 : 3 ≤ i) (h2 : i ≤ 7) : (hrow H).setIfInBounds i (.int .i64 v) = hrow (setH H i v) := by
  rcases (show i = 3 ∨ i = 4 ∨ i = 5 ∨ i = 6 ∨ i = 7 by omega) with rfl | rfl | rfl | rfl | rfl <;> rfl
theorem store_num {ops : Array Oper} {rest : List Oper} {o : Oper} {a : Act} {Q : Exit → Act → World → Prop} {W w : World} {ad : Addr} {b : Str} {c g1 g6 g7 : Nat} {H : Hdr} {ok : Bool} (hgd : o.guard = none) (x y : Operand) (ho : o.op = .store 3 x y) {i : Nat} {v : Int}
    (hx : a.eval x = .pointer (some ⟨g6, i, none⟩)) (hy : a.eval y = .int .i64 v) (h3 : 3 ≤ i) (h7 : i ≤ 7) (hS : RSt' w ad b c g1 g6 g7 H ok W) (h : ∀ w1, RSt' w ad b c g1 g6 g7 (setH H i v) ok w1 → wpList Tryd.prog ops Q rest (a.put o.dst undef) w1) : wpList Tryd.prog ops Q (o :: rest) a W := by
  have h6 := hS.2.2.2.2.1
  obtain ⟨u, hu⟩ : ∃ u, (hrow H)[i]? = some u := by
    rcases (show i = 3 ∨ i = 4 ∨ i = 5 ∨ i = 6 ∨ i = 7 by omega) with rfl | rfl | rfl | rfl | rfl <;> exact ⟨_, rfl⟩
  have c0 : W.cell? ⟨g6, i, none⟩ = some u := (Joins.cell_of_block h6 i).trans hu
  have f0 := Joins.unfrozen_of_block h6 i
  have e : (storeVar 3 ⟨g6, i, none⟩ (.int .i64 v)).run Tryd.prog W = .ok () (W.setCell ⟨g6, i, none⟩ (.int .i64 v)) := by
    rw [sv3]
    go_simp
  refine wpList_plain hgd fun K hK => ?_
  unfold Oper.wp execOp
  simp only [ho, hx, hy, Instr.storeAt, Instr.sureAddr, Sem.run_bind, Sem.run_pure, Result.andThen_ok, e]
  exact hK _ _ (h _ (rst_put i _ _ (setH_row H i v h3 h7) hS))
theorem nums_ok (b : Str) : okOf (okOf (okOf (okOf (okOf true (sub b 100 8)) (sub b 108 8)) (sub b 116 8)) (sub b 124 12)) (sub b 136 12) = numsOk b := by
  unfold okOf numsOk
  rw [Bool.true_and]
set_option maxHeartbeats 800000 in
theorem read_any {w : World} {ad : Addr} {l : Str} {n c : Nat} (hn : l.length = n) (h : 512 ≤ n) (hc : n ≤ c) (h2 : n ≤ 1000000) (hR : RdU w (some ad) l) (hm : MaxLen w) : Calls Tryd.prog 11 #[.slice (some ad) n c] w (ReadPost (readL l) w) := by
  have HR := Lib.hid (show readL l = if (headOk (l.take 512) && numsOk (l.take 512)) = true then (hdrOf (l.take 512), 0) else (hdr0, 2) from if_neg (by omega))
  have d1 : decide ((n : Int) < 512) = false := decide_eq_false (by omega)
  have d1' : decide (n < 512) = false := decide_eq_false (by omega)
  have q1 : (512 : Int) ≤ (c : Int) := by omega
  obtain ⟨b, hb⟩ : ∃ b, l.take 512 = b := ⟨_, rfl⟩
  have hbl : b.length = 512 := by rw [← hb, List.length_take]; omega
  have hRb : RdU w (some ad) b := by rw [← hb]; exact hR.take 512
  rw [hb] at HR
  have hrw := Lib.hid hRb
  go_enter Tryd.func11, Tryd.ntmps11
  go_upto_region 4 with (fail)
  change Code.wp Tryd.prog _ _ _ ((w.alloc (.cells #[.slice (some ad) 512 c] 22)).alloc (.cells (hrow hdr0) 24))
  have HO := Lib.hid (((Only.refl (fun _ => False) w).alloc (.cells #[.slice (some ad) 512 c] 22)).alloc (.cells (hrow hdr0) 24))
  have hb1 : ((w.alloc (.cells #[.slice (some ad) 512 c] 22)).alloc (.cells (hrow hdr0) 24)).heap[w.heap.size]? = some (.cells #[.slice (some ad) 512 c] 22 (0, 0)) := (alloc_old _ _ (by simp)).trans (alloc_new _ _)
  have hb2 : ((w.alloc (.cells #[.slice (some ad) 512 c] 22)).alloc (.cells (hrow hdr0) 24)).heap[w.heap.size + 1]? = some (.cells (hrow hdr0) 24 (0, 0)) := by have := alloc_new (w.alloc (.cells #[.slice (some ad) 512 c] 22)) (.cells (hrow hdr0) 24); rwa [alloc_size] at this
  obtain ⟨g1, hg1⟩ : ∃ g1, w.heap.size = g1 := ⟨_, rfl⟩
  obtain ⟨W, hW⟩ : ∃ W, (w.alloc (.cells #[.slice (some ad) 512 c] 22)).alloc (.cells (hrow hdr0) 24) = W := ⟨_, rfl⟩
  rw [hW, hg1] at hb1 hb2
  rw [hW] at HO
  rw [hW, hg1]
  have c1 : W.cell? ⟨g1, 0, none⟩ = some (.slice (some ad) 512 c) := Joins.cell_of_block hb1 0
  have HRb := Lib.hid (hRb.only HO.out)
  have HM := Lib.hid (hm.only HO.out)
  have hS1 := str_sub 257 8 8 (by decide) HRb.out (by omega)
  have hS2 := str_sub 148 8 8 (by decide) HRb.out (by omega)
  have HB1 := Lib.hid hb1
  have HB2 := Lib.hid hb2
  have HBL := Lib.hid hbl
  have HG := Lib.hid hg1
  have HT := Lib.hid (show headOk b = (decide (sub b 257 8 = magic) && decide ((octL (sub b 148 8)).2 = 0) && decide ((octL (sub b 148 8)).1 = sumOf b)) from rfl)
  obtain ⟨s1, hs1⟩ : ∃ s1, sub b 257 8 = s1 := ⟨_, rfl⟩
  obtain ⟨s2, hs2⟩ : ∃ s2, sub b 148 8 = s2 := ⟨_, rfl⟩
  have hl2 : s2.length = 8 := by rw [← hs2, sub_len (by omega)]
  rw [hs1] at hS1 HT
  rw [hs2] at hS2 HT
  have HO2 := Lib.hid (octal_any (B s2) W (by rw [B_size]; omega))
  rw [B_data] at HO2
  obtain ⟨v, hv⟩ : ∃ v, (octL s2).1 = v := ⟨_, rfl⟩
  obtain ⟨e, he⟩ : ∃ e, (octL s2).2 = e := ⟨_, rfl⟩
  rw [hv, he] at HO2 HT
  have HSM := Lib.hid (sum_any (c := c) hbl HRb.out)
  obtain ⟨z, hz⟩ : ∃ z, sumOf b = z := ⟨_, rfl⟩
  rw [hz] at HSM HT
  clear hs1 hs2 hl2 hv he hz hb1 hb2 hbl hg1 hW h hn hR hRb hb hm d1 d1' 
  have m1 : ((B s1).toList == ([117, 115, 116, 97, 114, 0, 48, 48] : List UInt8)) = decide (s1 = magic) := by rw [toList_B, beq_decide]; rfl
  have HGL := Lib.hid (show w.heap.size ≤ g1 + 1 by have := HG.out; omega)
  by_cases c2 : s1 = magic
  · rw [decide_eq_true c2] at m1
    rw [decide_eq_true c2, Bool.true_and] at HT
    clear c2
    by_cases c3 : e = 0
    · have d2 : (e != 0) = false := by rw [c3]; rfl
      rw [decide_eq_true c3, Bool.true_and] at HT
      clear c3
      by_cases c4 : v = z
      · have d3 : (v != z) = false := by rw [c4]; simp
        rw [decide_eq_true c4] at HT
        clear c4
        go_upto_region 9 with (first
          | (go_at_call 23; refine (field_any (L := 512) (c := c) _ _ (by omega) (by decide) (by decide) (by decide)).mono ?_; rintro x w1 ⟨rfl, rfl⟩)
          | (go_at_call 24; refine HO2.out.mono ?_; rintro x w1 ⟨rfl, rfl⟩)
          | (go_at_call 13; refine HSM.out.mono ?_; rintro x w1 ⟨rfl, rfl⟩))
        have c156 : w1.cell? ⟨ad.block, ad.off + 156, none⟩ = some (.int .u8 ((b.getD 156 0).toNat : Int)) := by
          obtain ⟨ad', ea, hcell⟩ := HRb.out.cells (by have := HBL.out; omega)
          injection ea with ea
          subst ea
          rw [← add_pos ad (a := 156) (by decide)]
          exact hcell 156 (by have := HBL.out; omega)
        obtain ⟨y, hy⟩ : ∃ y, b.getD 156 0 = y := ⟨_, rfl⟩
        rw [hy] at c156
        have hS0 : w1.cell? ⟨g1, 0, none⟩ = some (.slice (some ad) 512 c) ∧ w1.cell? ⟨ad.block, ad.off + 156, none⟩ = some (.int .u8 (y.toNat : Int)) ∧ RdU w1 (some ad) b ∧ MaxLen w1 ∧ Only (fun _ => False) w1 w1 := ⟨c1, c156, HRb.out, HM.out, Only.refl _ _⟩
        obtain ⟨W, hW⟩ : ∃ W, W = w1 := ⟨_, rfl⟩
        have HX := Lib.hid (show Only (fun _ => False) w W ∧ RdU W (some ad) b ∧ W.heap[g1]? = some (.cells #[.slice (some ad) 512 c] 22 (0, 0)) ∧ W.heap[g1 + 1]? = some (.cells (hrow hdr0) 24 (0, 0)) by rw [hW]; exact ⟨HO.out, HRb.out, HB1.out, HB2.out⟩)
        rw [← hW] at c1 c156 hS0 ⊢
        clear HO HRb HM HB1 HB2 HO2 HSM hS1 hS2 hW c1 c156
        clear w1
        obtain ⟨H9, hH9⟩ : ∃ H9 : Hdr, (⟨upTo0 (sub b 0 100), upTo0 (sub b 345 155), upTo0 (sub b 157 100), 0, 0, 0, 0, 0, y, upTo0 (sub b 265 32), upTo0 (sub b 297 32)⟩ : Hdr) = H9 := ⟨_, rfl⟩
        go_cut [6] from 36 to 49 (fun v6 wx => ∃ g6, v6 = .pointer (some ⟨g6, 0, none⟩) ∧ W.heap.size ≤ g6 ∧ Hid (wx.heap[g6]? = some (.cells (hrow H9) 24 (0, 0))) ∧ Hid (Only (fun _ => False) W wx))
        case first =>
          go_region_held3 (fun u => u.cell? ⟨g1, 0, none⟩ = some (.slice (some ad) 512 c) ∧ u.cell? ⟨ad.block, ad.off + 156, none⟩ = some (.int .u8 (y.toNat : Int)) ∧ RdU u (some ad) b ∧ MaxLen u ∧ Only (fun _ => False) W u) (first | exact hold_keep hS0 ((Only.refl (fun _ => False) _).drew) | exact hold_keep2 (by assumption) (by assumption) | exact hold_alloc (by assumption) | exact hold_new hS0 (by assumption) (by assumption) (by assumption)) (first
            | (go_at_call 25; refine (text_any' (ad := ad) (L := 512) (c := c) HBL.out (by omega) (by decide) (by decide) (by decide) (show _ ∧ _ ∧ RdU _ _ _ ∧ MaxLen _ ∧ Only _ _ _ by assumption).2.2.1 (show _ ∧ _ ∧ RdU _ _ _ ∧ MaxLen _ ∧ Only _ _ _ by assumption).2.2.2.1).mono ?_; rintro x w8 ⟨rfl, h8⟩)
            | ((refine upon_hdr (H0 := hdr0) (H := ⟨upTo0 (sub b 0 100), upTo0 (sub b 345 155), upTo0 (sub b 157 100), 0, 0, 0, 0, 0, y, upTo0 (sub b 265 32), upTo0 (sub b 297 32)⟩) (B := W.heap.size) ?_ ?_ ?_; (first | exact (alloc_new _ _) | exact (Only.keeps (by assumption) (alloc_new _ _) id) | exact (Only.keeps (by assumption) (Only.keeps (by assumption) (alloc_new _ _) id) id) | exact (Only.keeps (by assumption) (Only.keeps (by assumption) (Only.keeps (by assumption) (alloc_new _ _) id) id) id) | exact (Only.keeps (by assumption) (Only.keeps (by assumption) (Only.keeps (by assumption) (Only.keeps (by assumption) (alloc_new _ _) id) id) id) id) | exact (Only.keeps (by assumption) (Only.keeps (by assumption) (Only.keeps (by assumption) (Only.keeps (by assumption) (Only.keeps (by assumption) (alloc_new _ _) id) id) id) id) id) | exact (alloc_drew _ _) | exact (Only.keeps (by assumption) (alloc_drew _ _) id) | exact (Only.keeps (by assumption) (Only.keeps (by assumption) (alloc_drew _ _) id) id) | exact (Only.keeps (by assumption) (Only.keeps (by assumption) (Only.keeps (by assumption) (alloc_drew _ _) id) id) id) | exact (Only.keeps (by assumption) (Only.keeps (by assumption) (Only.keeps (by assumption) (Only.keeps (by assumption) (alloc_drew _ _) id) id) id) id) | exact (Only.keeps (by assumption) (Only.keeps (by assumption) (Only.keeps (by assumption) (Only.keeps (by assumption) (Only.keeps (by assumption) (alloc_drew _ _) id) id) id) id) id)); (first | exact Nat.le_refl _ | exact size0 (by assumption) | exact size_step (by assumption) (size0 (by assumption)) | exact size_step (by assumption) (size_step (by assumption) (size0 (by assumption))) | exact size_step (by assumption) (size_step (by assumption) (size_step (by assumption) (size0 (by assumption)))) | exact size_step (by assumption) (size_step (by assumption) (size_step (by assumption) (size_step (by assumption) (size0 (by assumption)))))); intro w9 hb9 ho9 hg9)))
          all_goals (
            go_wp2_with fail
            go_meet
            rw [← hH9]
            exact ⟨_, rfl, hg9, Lib.hid hb9, Lib.hid (show _ ∧ _ ∧ RdU _ _ _ ∧ MaxLen _ ∧ Only _ _ _ by assumption).2.2.2.2⟩)
        case rest =>
          obtain ⟨g6, rfl, hg6, HB6, HOx⟩ := hcut
          obtain ⟨hx1, hx2, hx3, hx4⟩ := HX.out
          have HOw := Lib.hid (hx1.trans' HOx.out)
          have HRx := Lib.hid (hx2.only HOx.out)
          have HB1 := Lib.hid (HOx.out.keeps hx3 id)
          have HB2 := Lib.hid (HOx.out.keeps hx4 id)
          have HG6 := Lib.hid (show g1 + 1 < g6 ∧ g6 < wc.heap.size from ⟨Nat.lt_of_lt_of_le (Only.heap_lt hx4) hg6, Only.heap_lt HB6.out⟩)
          clear HX HOx hx1 hx2 hx3 hx4 hg6 hS0
          clear W
          go_upto_region 11 with (fail)
          change Code.wp Tryd.prog _ _ _ (wc.alloc (.cells #[.bool true] 4))
          have HST := Lib.hid (rst_start (H := H9) (c := c) (g6 := g6) hrw.out HOw.out HB1.out HB2.out HB6.out HGL.out HG6.out.1 HG6.out.2)
          obtain ⟨U, hU⟩ : ∃ U, wc.alloc (.cells #[.bool true] 4) = U := ⟨_, rfl⟩
          obtain ⟨g7, hg7⟩ : ∃ g7, wc.heap.size = g7 := ⟨_, rfl⟩
          rw [hU, hg7] at HST ⊢
          clear HOw HRx HB1 HB2 HB6 HG6 hU hg7
          clear wc
          have hmf : ∀ (fn : Fn) (first cap : Array Value) (w : World), (Instr.makeFunc fn first cap).run Tryd.prog w = .ok (.func fn first cap) w := fun _ _ _ _ => rfl
          go_upto_region 12 with (fail)
          go_upto_region 14 with (first
            | (go_at_call 26; go_must (refine (rst_call _ _ HBL.out (by omega) (by decide) (by decide) HST.out).mono ?_; rintro x u1 ⟨rfl, h1⟩; have HST := Lib.hid h1))
            | (with_reducible refine gate_store 3 rfl ?_; go_must (refine store_num rfl _ _ rfl rfl rfl (by decide) (by decide) HST.out ?_; intro u1 h1; have HST := Lib.hid h1)))
          rw [nums_ok b] at HST
          rw [show setH (setH (setH (setH (setH H9 3 (octL (sub b 100 8)).1) 4 (octL (sub b 108 8)).1) 5 (octL (sub b 116 8)).1) 6 (octL (sub b 124 12)).1) 7 (octL (sub b 136 12)).1 = hdrOf b by rw [← hH9, ← hy]; rfl] at HST
          obtain ⟨o1, o2, o3, o4, o5, o6, o7, o8, o9⟩ := HST.out
          have c7 : u1.cell? ⟨g7, 0, none⟩ = some (.bool (numsOk b)) := Joins.cell_of_block o6 0
          rw [HT.out, Bool.true_and] at HR
          have HO2 := Lib.hid o2
          have HO4 := Lib.hid o4
          have HO5 := Lib.hid o5
          cases hno : numsOk b with
          | true =>
            rw [hno] at c7 HR
            have HR2 := Lib.hid (HR.out.trans (if_pos rfl))
            go_wp2_with (first
              | (with_reducible refine gate 69 rfl ?_; go_must (refine load_hdr rfl _ rfl rfl HO5.out ?_))
              | (with_reducible refine gate_store 24 rfl ?_; refine store_hdr rfl (hdrOf b) _ _ rfl rfl rfl HO4.out ?_; intro w2 hb3 ho3))
            exact bodyPost_ret (results_hdr (H := hdrOf b) rfl rfl rfl hb3) rfl ⟨by rw [HR2.out]; rfl, HO2.out.trans ho3 (fun k hk => Or.inr (by rw [hk]; exact o7))⟩
          | false =>
            rw [hno] at c7 HR
            have HR2 := Lib.hid (HR.out.trans (if_neg Bool.false_ne_true))
            go_wp2_with (first
              | (with_reducible refine gate_store 24 rfl ?_; refine store_hdr rfl hdr0 _ _ rfl rfl rfl HO4.out ?_; intro w2 hb3 ho3))
            exact bodyPost_ret (results_hdr (H := hdr0) rfl rfl rfl hb3) rfl ⟨by rw [HR2.out]; rfl, HO2.out.trans ho3 (fun k hk => Or.inr (by rw [hk]; exact o7))⟩
      · have d3 : (v != z) = true := bne_iff_ne.mpr c4
        rw [decide_eq_false c4] at HT
        have HR2 := Lib.hid (show readL l = (hdr0, 2) by rw [HR.out, HT.out]; rfl)
        clear c4
        go_wp2_with (first
          | (go_at_call 23; refine (field_any (L := 512) (c := c) _ _ (by omega) (by decide) (by decide) (by decide)).mono ?_; rintro x w1 ⟨rfl, rfl⟩)
          | (go_at_call 24; refine HO2.out.mono ?_; rintro x w1 ⟨rfl, rfl⟩)
          | (go_at_call 13; refine HSM.out.mono ?_; rintro x w1 ⟨rfl, rfl⟩)
          | (with_reducible refine gate_store 24 rfl ?_; refine store_hdr rfl hdr0 _ _ rfl rfl rfl HB2.out ?_; intro w2 hb3 ho3))
        exact bodyPost_ret (results_hdr (H := hdr0) rfl rfl rfl hb3) rfl ⟨by rw [HR2.out]; rfl, HO.out.trans ho3 (fun k hk => Or.inr (by rw [hk]; exact HGL.out))⟩
    · have d2 : (e != 0) = true := bne_iff_ne.mpr c3
      rw [decide_eq_false c3, Bool.false_and] at HT
      have HR2 := Lib.hid (show readL l = (hdr0, 2) by rw [HR.out, HT.out]; rfl)
      clear c3
      go_wp2_with (first
        | (go_at_call 23; refine (field_any (L := 512) (c := c) _ _ (by omega) (by decide) (by decide) (by decide)).mono ?_; rintro x w1 ⟨rfl, rfl⟩)
        | (go_at_call 24; refine HO2.out.mono ?_; rintro x w1 ⟨rfl, rfl⟩)
        | (with_reducible refine gate_store 24 rfl ?_; refine store_hdr rfl hdr0 _ _ rfl rfl rfl HB2.out ?_; intro w2 hb3 ho3))
      exact bodyPost_ret (results_hdr (H := hdr0) rfl rfl rfl hb3) rfl ⟨by rw [HR2.out]; rfl, HO.out.trans ho3 (fun k hk => Or.inr (by rw [hk]; exact HGL.out))⟩
  · rw [decide_eq_false c2] at m1
    rw [decide_eq_false c2, Bool.false_and, Bool.false_and] at HT
    have HR2 := Lib.hid (show readL l = (hdr0, 2) by rw [HR.out, HT.out]; rfl)
    clear c2
    go_wp2_with (first
      | (go_at_call 23; refine (field_any (L := 512) (c := c) _ _ (by omega) (by decide) (by decide) (by decide)).mono ?_; rintro x w1 ⟨rfl, rfl⟩)
      | (with_reducible refine gate_store 24 rfl ?_; refine store_hdr rfl hdr0 _ _ rfl rfl rfl HB2.out ?_; intro w2 hb3 ho3))
    exact bodyPost_ret (results_hdr (H := hdr0) rfl rfl rfl hb3) rfl ⟨by rw [HR2.out]; rfl, HO.out.trans ho3 (fun k hk => Or.inr (by rw [hk]; exact HGL.out))⟩
end Go.Proofs.YtggjdfnkmhlliaaDoor.Walks
