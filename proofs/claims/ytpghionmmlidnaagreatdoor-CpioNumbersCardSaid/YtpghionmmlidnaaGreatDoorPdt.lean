/- Plain: what the program's cpio reader computes, step by step. The reader's groups in memory: a map keyed by three numbers. Plain facts; the map's laws at this key. Contract of the parser's entry. Contract of the parser's named. The reader's state in memory. Slices of entries that grow, whose entries get their bytes later. Contract of the parser's end. The reader's state: what holds of memory between two steps. Plain: the reader's groups hold together from step to step. The reader's state when an entry's bytes come. -/
import Derived.Test.YtpghionmmlidnaaGreatDoorHexR
import Derived.Test.YtpghionmmlidnaaGreatDoorRep
import Derived.DeepKeys4
import Derived.Maps.OwnSet
import Derived.Test.YtpghionmmlidnaaGreatDoorOne
import Derived.Test.YtpghionmmlidnaaGreatDoorHead
import Derived.Test.YtpghionmmlidnaaGreatDoorAppE
import Derived.BigRegion
import Derived.Deep.RegionHeld3
import Derived.Test.YtpghionmmlidnaaGreatDoorOwnU
namespace Go.Proofs.YtpghionmmlidnaaGreatDoor.Walks
open Go Go.RowKit Go.Proofs.YtpghionmmlidnaaGreatDoor.Aid Go.Proofs.YtpghionmmlidnaaGreatDoor.Pth Go.Proofs.YtpghionmmlidnaaGreatDoor.Own Go.Proofs.YtpghionmmlidnaaGreatDoorW.PrintWords

/-- A kind out of a mode's upper bits; 0: none. -/
def kindN (m : Nat) : Int := if m / 4096 = 8 then 1 else if m / 4096 = 4 then 2 else if m / 4096 = 10 then 3 else 0
/-- A record's numbers are in bounds. -/
def NumOk (ns : List Nat) : Prop := ns.length = 13 ∧ ∀ n ∈ ns, n ≤ 4294967295
theorem NumOk.at {ns : List Nat} (h : NumOk ns) (i : Nat) : ns.getD i 0 ≤ 4294967295 := by
  rw [List.getD_eq_getElem?_getD]
  cases e : ns[i]? with
  | none => exact Nat.zero_le _
  | some x => exact h.2 x (List.mem_of_getElem? e)
def entB (ns : List Nat) (s : Str) : Ent := ⟨s, kindN (ns.getD 1 0), ((ns.getD 1 0 % 4096 : Nat) : Int), ((ns.getD 3 0 : Nat) : Int), ((ns.getD 4 0 : Nat) : Int), floatOfInt .f64 ((ns.getD 5 0 : Nat) : Int), [], []⟩
/-- A record's entry by itself, and the place behind it; none: it is wrong. -/
def entryL (b : Str) (at_ : Nat) (ns : List Nat) (name : Str) : Option (Ent × Nat) :=
  if ns.getD 12 0 ≠ 0 then none
  else if kindN (ns.getD 1 0) = 0 then none
  else if ¬ ns.getD 3 0 ≤ 2147483647 then none
  else if ¬ ns.getD 4 0 ≤ 2147483647 then none
  else match cleanL name with
    | none => none
    | some s =>
      if kindN (ns.getD 1 0) = 2 then (if ns.getD 6 0 = 0 then some (entB ns s, at_) else none)
      else if kindN (ns.getD 1 0) = 3 then
        (if ¬ 1 ≤ ns.getD 6 0 then none
         else if ¬ ns.getD 6 0 ≤ 4096 then none
         else if b.length < at_ + ns.getD 6 0 then none
         else if noZ ((b.drop at_).take (ns.getD 6 0)) = false then none
         else if b.length < at_ + ns.getD 6 0 + padN (at_ + ns.getD 6 0) then none
         else some ({ entB ns s with target := (b.drop at_).take (ns.getD 6 0) }, at_ + ns.getD 6 0 + padN (at_ + ns.getD 6 0)))
      else some (entB ns s, at_)
theorem cleanL_len {l s : Str} (h : cleanL l = some s) : s.length ≤ 4096 := by
  unfold cleanL at h
  split at h
  · cases h
  · split at h
    · cases h
    · split at h
      · cases h
      · rename_i h3
        injection h with h
        rw [← h]
        exact Nat.le_of_not_lt (fun h4 => h3 (Or.inr h4))
theorem kindN_or (m : Nat) : kindN m = 0 ∨ kindN m = 1 ∨ kindN m = 2 ∨ kindN m = 3 := by
  unfold kindN
  split
  · exact Or.inr (Or.inl rfl)
  · split
    · exact Or.inr (Or.inr (Or.inl rfl))
    · split
      · exact Or.inr (Or.inr (Or.inr rfl))
      · exact Or.inl rfl
theorem entryL_facts {b : Str} {at_ at2 : Nat} {ns : List Nat} {name : Str} {E : Ent} (h : entryL b at_ ns name = some (E, at2)) : at_ ≤ at2 ∧ (at_ ≤ b.length → at2 ≤ b.length) ∧ E.data = [] ∧ E.path.length ≤ 4096 ∧ (E.kind = 1 ∨ E.kind = 2 ∨ E.kind = 3) := by
  unfold entryL at h
  by_cases a1 : ns.getD 12 0 ≠ 0
  · rw [if_pos a1] at h; cases h
  rw [if_neg a1] at h
  by_cases a2 : kindN (ns.getD 1 0) = 0
  · rw [if_pos a2] at h; cases h
  rw [if_neg a2] at h
  by_cases a3 : ¬ ns.getD 3 0 ≤ 2147483647
  · rw [if_pos a3] at h; cases h
  rw [if_neg a3] at h
  by_cases a4 : ¬ ns.getD 4 0 ≤ 2147483647
  · rw [if_pos a4] at h; cases h
  rw [if_neg a4] at h
  cases hs : cleanL name with
  | none => rw [hs] at h; cases h
  | some s =>
    rw [hs] at h
    dsimp only at h
    have hp := cleanL_len hs
    have hkd : (entB ns s).kind = 1 ∨ (entB ns s).kind = 2 ∨ (entB ns s).kind = 3 := (kindN_or _).resolve_left a2
    by_cases b1 : kindN (ns.getD 1 0) = 2
    · rw [if_pos b1] at h
      by_cases b2 : ns.getD 6 0 = 0
      · rw [if_pos b2] at h
        injection h with h; injection h with h1 h2; subst h1 h2; exact ⟨Nat.le_refl _, id, rfl, hp, hkd⟩
      · rw [if_neg b2] at h; cases h
    rw [if_neg b1] at h
    by_cases b3 : kindN (ns.getD 1 0) = 3
    · rw [if_pos b3] at h
      by_cases d1 : ¬ 1 ≤ ns.getD 6 0
      · rw [if_pos d1] at h; cases h
      rw [if_neg d1] at h
      by_cases d2 : ¬ ns.getD 6 0 ≤ 4096
      · rw [if_pos d2] at h; cases h
      rw [if_neg d2] at h
      by_cases d3 : b.length < at_ + ns.getD 6 0
      · rw [if_pos d3] at h; cases h
      rw [if_neg d3] at h
      by_cases d4 : noZ ((b.drop at_).take (ns.getD 6 0)) = false
      · rw [if_pos d4] at h; cases h
      rw [if_neg d4] at h
      by_cases d5 : b.length < at_ + ns.getD 6 0 + padN (at_ + ns.getD 6 0)
      · rw [if_pos d5] at h; cases h
      rw [if_neg d5] at h
      injection h with h; injection h with h1 h2; subst h1 h2
      exact ⟨by omega, fun _ => by omega, rfl, hp, hkd⟩
    · rw [if_neg b3] at h
      injection h with h; injection h with h1 h2; subst h1 h2; exact ⟨Nat.le_refl _, id, rfl, hp, hkd⟩
/-- A thing's numbers, the place of its first name, were its bytes there? -/
abbrev Grp := (Nat × Nat × Nat) × Nat × Bool
def gfind : List Grp → (Nat × Nat × Nat) → Option (Nat × Bool)
  | [], _ => none
  | g :: r, k => if g.1 = k then some g.2 else gfind r k
def keyN (ns : List Nat) : Nat × Nat × Nat := (ns.getD 0 0, ns.getD 7 0, ns.getD 8 0)
/-- Another name of a thing that stands ahead; the place of the entry that bears its bytes; the groups then. -/
def namedL (out : List Ent) (grp : List Grp) (e : Ent) (ns : List Nat) : Option (Ent × Nat × List Grp) :=
  if e.kind ≠ 1 then some (e, out.length, grp)
  else if ns.getD 2 0 ≤ 1 then some (e, out.length, grp)
  else match gfind grp (keyN ns) with
    | none => some (e, out.length, (keyN ns, out.length, decide (0 < ns.getD 6 0)) :: grp)
    | some (first, by_) =>
      if lastKind out (out.getD first e0).path ≠ 1 then none
      else if ¬ ns.getD 6 0 = 0 ∧ by_ = true then none
      else some ({ e with kind := 4, target := (out.getD first e0).path }, first, (keyN ns, first, by_ || decide (0 < ns.getD 6 0)) :: grp)
/-- Where a reader stands. -/
structure PS where
  pos : Nat
  total : Int
  out : List Ent
  grp : List Grp
/-- Limits: an entry's bytes, all bytes, entries, a path's bytes. -/
structure Lim where
  entry : Int
  total : Int
  entries : Int
  path : Int
/-- Thirteen numbers of eight digits. -/
def numsAt (b : Str) : Nat → Nat → Option (List Nat)
  | _, 0 => some []
  | at_, n + 1 => if b.length < at_ + 8 then none else match hexL ((b.drop at_).take 8) with
    | none => none
    | some x => match numsAt b (at_ + 8) n with
      | none => none
      | some r => some (x :: r)
/-- Bytes come to an entry. -/
def addData (out : List Ent) (i : Nat) (d : Str) : List Ent := out.set i { out.getD i e0 with data := (out.getD i e0).data ++ d }
/-- The rest of a record, once the entry is known. -/
def tailL (b : Str) (lim : Lim) (s : PS) (ns : List Nat) (e : Ent) (whose : Nat) (grp : List Grp) (at_ : Nat) : Except Int PS :=
  if lim.path < e.path.length ∨ (s.out.length : Int) ≥ lim.entries then .error 3
  else if e.kind = 1 ∨ e.kind = 4 then
    (if ((ns.getD 6 0 : Nat) : Int) > min lim.entry (lim.total - s.total) then .error 3
     else if b.length < at_ + ns.getD 6 0 then .error 2
     else if b.length < at_ + ns.getD 6 0 + padN (at_ + ns.getD 6 0) then .error 2
     else .ok ⟨at_ + ns.getD 6 0 + padN (at_ + ns.getD 6 0), s.total + (ns.getD 6 0 : Nat), addData (s.out ++ [e]) whose ((b.drop at_).take (ns.getD 6 0)), grp⟩)
  else if b.length < at_ + padN at_ then .error 2
  else .ok ⟨at_ + padN at_, s.total, s.out ++ [e], grp⟩
/-- Behind the name. -/
def bodyL (b : Str) (lim : Lim) (s : PS) (ns : List Nat) (name : Str) (at_ : Nat) : Except Int PS :=
  if b.length < at_ + padN at_ then .error 2
  else match entryL b (at_ + padN at_) ns name with
    | none => .error 2
    | some (e, at2) => match namedL s.out s.grp e ns with
      | none => .error 2
      | some (e2, whose, grp) => tailL b lim s ns e2 whose grp at2
/-- One record: none: it was the last one. -/
def nextL (b : Str) (lim : Lim) (s : PS) : Except Int (Option PS) :=
  if b.length < s.pos + 6 then .error 2
  else if (b.drop s.pos).take 6 ≠ [48, 55, 48, 55, 48, 49] then .error 2
  else match numsAt b (s.pos + 6) 13 with
    | none => .error 2
    | some ns =>
      if ¬ 2 ≤ ns.getD 11 0 then .error 2
      else if ¬ ns.getD 11 0 ≤ 65536 then .error 2
      else if b.length < s.pos + 110 + ns.getD 11 0 then .error 2
      else if Lib.indexByte ((b.drop (s.pos + 110)).take (ns.getD 11 0)) 0 ≠ (ns.getD 11 0 : Int) - 1 then .error 2
      else if (b.drop (s.pos + 110)).take (ns.getD 11 0 - 1) = trailer then
        (if ns.getD 6 0 = 0 ∧ zerosB (b.drop (s.pos + 110 + ns.getD 11 0)) = true then .ok none else .error 2)
      else match bodyL b lim s ns ((b.drop (s.pos + 110)).take (ns.getD 11 0 - 1)) (s.pos + 110 + ns.getD 11 0) with
        | .error c => .error c
        | .ok s2 => .ok (some s2)
/-- All records. -/
def runL (b : Str) (lim : Lim) : Nat → PS → Except Int (List Ent)
  | 0, _ => .error 2
  | k + 1, s => match nextL b lim s with
    | .error c => .error c
    | .ok none => .ok s.out
    | .ok (some s2) => runL b lim k s2
def Lim.ok (l : Lim) : Bool := Bud.mayB l.entry l.total l.entries l.path
/-- cpio.Parse. -/
def parseL (b : Str) (lim : Lim) : Except Int (List Ent) := if lim.ok = true then runL b lim (b.length + 1) ⟨0, 0, [], []⟩ else .error 1
end Go.Proofs.YtpghionmmlidnaaGreatDoor.Walks
namespace Go.Proofs.YtpghionmmlidnaaGreatDoor.Walks
open Go Go.RowKit Go.Maps Go.WideMaps Go.Proofs.YtpghionmmlidnaaGreatDoor.Aid Go.Proofs.YtpghionmmlidnaaGreatDoor.Pth Go.Proofs.YtpghionmmlidnaaGreatDoor.Own Go.Proofs.YtpghionmmlidnaaGreatDoorW.PrintWords

theorem keyed115 : Keyed Tryz.prog 115 := Keyed.of_law (deep_law_laid (show laidOutB Tryz.prog = true by kernel_rfl) (m := 2) (by omega) (of_decide_eq_true (by kernel_rfl)) (by kernel_rfl) (by rw [Tryz.underlying115]))
def keyV (k : Nat × Nat × Nat) : Value := .agg #[.int .i64 (k.1 : Int), .int .i64 (k.2.1 : Int), .int .i64 (k.2.2 : Int)]
def key3 (k : Nat × Nat × Nat) : Lit := .string (keyBytes [.int .i64 (k.1 : Int), .int .i64 (k.2.1 : Int), .int .i64 (k.2.2 : Int)])
def KeyOk (k : Nat × Nat × Nat) : Prop := k.1 ≤ 4294967295 ∧ k.2.1 ≤ 4294967295 ∧ k.2.2 ≤ 4294967295
theorem wfN {n : Nat} (h : n ≤ 4294967295) : (Lit.int .i64 (n : Int)).wf = true := WalkArith.wf_i64 (by omega)
theorem cells3 : Tryz.prog.cellsOf 3 = 1 := by kernel_rfl
theorem cells115 : Tryz.prog.cellsOf 115 = 3 := by kernel_rfl
theorem keyT115 : Tryz.prog.keyType 115 = true := by kernel_rfl
theorem keyOf3 {k : Nat × Nat × Nat} (h : KeyOk k) : keyOf Tryz.prog 115 (keyV k) = some (key3 k) := by
  obtain ⟨a, b, c⟩ := k
  obtain ⟨ha, hb, hc⟩ := h
  have w1 := wfN ha
  have w2 := wfN hb
  have w3 := wfN hc
  have hf : (Value.agg #[.int .i64 (a : Int), .int .i64 (b : Int), .int .i64 (c : Int)]).formed Tryz.prog 115 = true := by simp [Value.formed, Tryz.underlying115, cells115]
  have hl : Tryz.prog.keyLits (Tryz.prog.types.size + 1) 115 [.int .i64 (a : Int), .int .i64 (b : Int), .int .i64 (c : Int)] = some [.int .i64 (a : Int), .int .i64 (b : Int), .int .i64 (c : Int)] := by
    obtain ⟨d, hd⟩ : ∃ d, Tryz.prog.types.size = d + 1 := ⟨Tryz.prog.types.size - 1, by have : 0 < Tryz.prog.types.size := of_decide_eq_true (by kernel_rfl); omega⟩
    rw [hd]
    simp [Program.keyLits, Tryz.underlying115, Tryz.underlying3, cells115, cells3, List.range_succ, w1, w2, w3]
  have hc : (Value.agg #[.int .i64 (a : Int), .int .i64 (b : Int), .int .i64 (c : Int)]).cells.toList = [.int .i64 (a : Int), .int .i64 (b : Int), .int .i64 (c : Int)] := rfl
  unfold keyOf keyV
  rw [Tryz.underlying115]
  dsimp only
  rw [keyT115, hf, hc, hl]
  rfl
theorem key3_inj {k m : Nat × Nat × Nat} (hk : KeyOk k) (hm : KeyOk m) (h : key3 k = key3 m) : k = m := by
  have e := keyed115.inj (keyOf3 hk) (by rw [h]; exact keyOf3 hm)
  obtain ⟨a, b, c⟩ := k
  obtain ⟨a', b', c'⟩ := m
  unfold keyV at e
  simp only [Value.agg.injEq, Array.mk.injEq, List.cons.injEq, Value.int.injEq, and_true, true_and, Int.ofNat_inj] at e
  obtain ⟨e1, e2, e3⟩ := e
  rw [e1, e2, e3]
section
variable {H : Type}
/-- How a group reads. -/
def grpElem : Value → Option (DataW H × List MemPlace)
  | .agg cs => match cs.toList with
    | [.int .i64 a, .bool b] => some (.agg [.lit (.int .i64 a), .lit (.bool b)], [])
    | _ => none
  | _ => none
def gVal (g : Nat × Bool) : Value := .agg #[.int .i64 (g.1 : Int), .bool g.2]
def gDat (g : Nat × Bool) : DataW H := .agg [.lit (.int .i64 (g.1 : Int)), .lit (.bool g.2)]
theorem grpElem_mk (g : Nat × Bool) : grpElem (H := H) (gVal g) = some (gDat g, []) := rfl
theorem grpElem_inv {v : Value} {g : Nat × Bool} {ps : List MemPlace} (h : grpElem (H := H) v = some (gDat g, ps)) : v = gVal g := by
  unfold grpElem at h
  split at h
  · rename_i cs
    split at h
    · rename_i a b hcs
      simp only [Option.some.injEq, Prod.mk.injEq, gDat, DataW.agg.injEq, List.cons.injEq, DataW.lit.injEq, Lit.int.injEq, Lit.bool.injEq, and_true, true_and] at h
      obtain ⟨⟨h1, h2⟩, _⟩ := h
      subst h1 h2
      unfold gVal
      congr 1
      exact Array.ext' hcs
    · cases h
  · cases h
def gmap (G : List Grp) : DataW H := G.foldr (fun g m => m.put (key3 g.1) (gDat g.2)) (.map [])
theorem gmap_cons (g : Grp) (G : List Grp) : (gmap (g :: G) : DataW H) = (gmap G).put (key3 g.1) (gDat g.2) := rfl
theorem gmap_isMap : ∀ G : List Grp, Maps.IsMap (gmap G : DataW H)
  | [] => Maps.isMap_empty
  | g :: r => by rw [gmap_cons]; exact (gmap_isMap r).put _ _
theorem key3_key {k : Nat × Nat × Nat} (h : KeyOk k) : WideAt.IsKeyLit (key3 k) := keyed115.key (keyOf3 h)
theorem gmap_find {k : Nat × Nat × Nat} (hk : KeyOk k) : ∀ G : List Grp, (∀ g ∈ G, KeyOk g.1) →
    (Maps.has (gmap G : DataW H) (key3 k) = (gfind G k).isSome ∧ ∀ z, (gmap G : DataW H).atKey (key3 k) z = match gfind G k with | none => z | some v => gDat v)
  | [], _ => ⟨rfl, fun _ => rfl⟩
  | g :: r, h => by
    have ih := gmap_find hk r (fun x hx => h x (List.mem_cons_of_mem _ hx))
    have hg := h g (List.mem_cons_self ..)
    rw [gmap_cons]
    unfold gfind
    by_cases e : g.1 = k
    · rw [if_pos e, e]
      exact ⟨Maps.has_put_same (gmap_isMap r) (key3_key hk) _, fun z => Maps.atKey_put_same (gmap_isMap r) (key3_key hk) _ _⟩
    · rw [if_neg e]
      have hne : key3 k ≠ key3 g.1 := fun h2 => e (key3_inj hg hk h2.symm)
      exact ⟨(Maps.has_put_other hne _).trans ih.1, fun z => (Maps.atKey_put_other hne _ _).trans (ih.2 z)⟩
end
theorem zero117 (w : World) : (zeroValue 117).run Tryz.prog w = .ok (gVal (0, false)) w := by kernel_rfl
end Go.Proofs.YtpghionmmlidnaaGreatDoor.Walks
namespace Go.Proofs.YtpghionmmlidnaaGreatDoor.Walks
open Go Go.RowKit Go.Proofs.YtpghionmmlidnaaGreatDoor.Aid Go.Proofs.YtpghionmmlidnaaGreatDoor.Pth Go.Proofs.YtpghionmmlidnaaGreatDoor.Own Go.Proofs.YtpghionmmlidnaaGreatDoorW.PrintWords

def arrN (ns : List Nat) : Array Value := (ns.map (fun n : Nat => Value.int .i64 (n : Int))).toArray
theorem arrN_get {ns : List Nat} {i : Nat} (h : i < ns.length) : (arrN ns)[i]? = some (.int .i64 ((ns.getD i 0 : Nat) : Int)) := by
  unfold arrN
  rw [List.getElem?_toArray, List.getElem?_map, List.getElem?_eq_getElem h, List.getD_eq_getElem?_getD, List.getElem?_eq_getElem h]
  rfl
theorem and4095 (x : Int) : Go.bits .and .i64 x 4095 = x % 4096 := mask_any stays_i64 (i := 12) (by decide) x
/-- What a record's entry leaves. -/
def EntryPost (b : Str) (g : Nat) (A : Option Addr) (n c at_ gb : Nat) (out : Value) (gk gg : Nat) (ns : List Nat) (name : Str) (w : World) (e : Ending) (w' : World) : Prop :=
  match entryL b at_ ns name with
  | none => e = .panicked (faultC 2) ∧ Only (fun b => b = g) w w'
  | some (E, at2) => e = .returned (eval E none 0) ∧ w'.heap[g]? = some (.cells (prow A n c at2 gb out gk gg) 71 (0, 0)) ∧ Only (fun b => b = g) w w'
/-- Within entry: the record's numbers in block g1, the result's variable in g2, the entry in g3. -/
structure EnSt (w : World) (g g1 g2 g3 : Nat) (ns : List Nat) (P : Array Value) (E : Ent) (u : World) : Prop where
  par : u.heap[g]? = some (.cells P 71 (0, 0))
  arr : u.heap[g1]? = some (.cells (arrN ns) 57 (0, 0))
  res : u.heap[g2]? = some (.cells zrow 47 (0, 0))
  row : u.heap[g3]? = some (.cells (erow E none 0) 47 (0, 0))
  only : Only (fun b => b = g) w u
  lt : g < g1 ∧ g1 < g2 ∧ g2 < g3 ∧ w.heap.size ≤ g1
section
variable {w u v : World} {g g1 g2 g3 : Nat} {ns : List Nat} {P P' : Array Value} {E E' : Ent}
theorem EnSt.c (h : EnSt w g g1 g2 g3 ns P E u) (hns : NumOk ns) (i : Nat) (hi : i < 13) : u.cell? ⟨g1, i, none⟩ = some (.int .i64 ((ns.getD i 0 : Nat) : Int)) :=
  (Joins.cell_of_block h.arr i).trans (arrN_get (by rw [hns.1]; exact hi))
theorem EnSt.put (h : EnSt w g g1 g2 g3 ns P E u) (i : Nat) (x : Value) (he : (erow E none 0).setIfInBounds i x = erow E' none 0) : EnSt w g g1 g2 g3 ns P E' (u.setCell ⟨g3, i, none⟩ x) := by
  obtain ⟨l1, l2, l3, l4⟩ := h.lt
  exact ⟨by rw [heap_setCell_other u ⟨g3, i, none⟩ g x (by show g ≠ g3; omega)]; exact h.par, by rw [heap_setCell_other u ⟨g3, i, none⟩ g1 x (by show g1 ≠ g3; omega)]; exact h.arr,
    by rw [heap_setCell_other u ⟨g3, i, none⟩ g2 x (by show g2 ≠ g3; omega)]; exact h.res, by rw [heap_setCell_same u g3 i _ _ x h.row, he],
    h.only.setCell (p := ⟨g3, i, none⟩) (Or.inr (by show w.heap.size ≤ g3; omega)) x, h.lt⟩
theorem EnSt.step (h : EnSt w g g1 g2 g3 ns P E u) (ho : Only (fun _ => False) u v) : EnSt w g g1 g2 g3 ns P E v :=
  ⟨ho.keeps h.par id, ho.keeps h.arr id, ho.keeps h.res id, ho.keeps h.row id, h.only.trans ho (fun _ h => h.elim), h.lt⟩
theorem EnSt.take (h : EnSt w g g1 g2 g3 ns P E u) (hp : v.heap[g]? = some (.cells P' 71 (0, 0))) (ho : Only (fun b => b = g) u v) : EnSt w g g1 g2 g3 ns P' E v := by
  obtain ⟨l1, l2, l3, l4⟩ := h.lt
  exact ⟨hp, ho.keeps h.arr (by omega), ho.keeps h.res (by omega), ho.keeps h.row (by omega), h.only.trans' ho, h.lt⟩
end
theorem MaxLen.but {w u : World} {g : Nat} (h : MaxLen w) (ho : Only (fun b => b = g) w u) (hg : g ≠ 1) : MaxLen u := by
  obtain ⟨m, hm⟩ := h
  exact ⟨m, ho.cell hm (fun e => hg e.symm)⟩
theorem rdU_part {u : World} {ad : Addr} {b : Str} {at_ k : Nat} (h : at_ + k ≤ b.length) (hR : RdU u (some ad) b) : RdU u (some (ad.add at_)) ((b.drop at_).take k) := by
  by_cases h0 : b.length = 0
  · intro h1
    rw [ints_len, List.length_take, List.length_drop] at h1
    omega
  · obtain ⟨ad', e, hc⟩ := hR.cells (by omega)
    cases e
    refine RdU.of_cells fun j hj => ?_
    rw [List.length_take, List.length_drop] at hj
    rw [add_add, hc (at_ + j) (by omega)]
    congr 2
    rw [List.getD_eq_getElem?_getD, List.getD_eq_getElem?_getD, List.getElem?_take, if_pos (by omega), List.getElem?_drop]
attribute [local go_sem] run_store_float
set_option maxRecDepth 100000 in
set_option maxHeartbeats 4000000 in
theorem entry_any {b : Str} {w : World} {g : Nat} {ad : Addr} {n c at_ gb gk gg : Nat} {out : Value} {ns : List Nat} {name : Str} (hb : w.heap[g]? = some (.cells (prow (some ad) n c at_ gb out gk gg) 71 (0, 0))) (hR : RdU w (some ad) b) (hn : b.length = n) (hl : n ≤ 500000) (hc : n ≤ c) (hat : at_ ≤ n) (hg : ad.block ≠ g)
    (hns : NumOk ns) (hnm : name.length ≤ 500000) (hm : MaxLen w) (hgm : g ≠ 1) :
    Calls Tryz.prog 70 #[.pointer (some ⟨g, 0, none⟩), .agg (arrN ns), .string (B name)] w (EntryPost b g (some ad) n c at_ gb out gk gg ns name w) := by
  have HB := Lib.hid hb
  have HR := Lib.hid hR
  have HN := Lib.hid hn
  have HL := Lib.hid hl
  have HC := Lib.hid hc
  have HAt := Lib.hid hat
  have HG := Lib.hid hg
  have HNs := Lib.hid hns
  have HNm := Lib.hid hnm
  have HM := Lib.hid hm
  have HGm := Lib.hid hgm
  obtain ⟨S, hS⟩ : ∃ S, B name = S := ⟨_, rfl⟩
  have HS := Lib.hid hS
  rw [hS]
  clear hb hR hn hl hc hat hg hns hnm hm hgm hS
  have HBad := Lib.hid (fun (h : entryL b at_ ns name = none) u (ho : Only (fun b => b = g) w u) => show EntryPost b g (some ad) n c at_ gb out gk gg ns name w (.panicked (faultC 2)) u from by unfold EntryPost; rw [h]; exact ⟨rfl, ho⟩)
  have HOk := Lib.hid (fun E at2 (h : entryL b at_ ns name = some (E, at2)) u (hb : u.heap[g]? = some (.cells (prow (some ad) n c at2 gb out gk gg) 71 (0, 0))) (ho : Only (fun b => b = g) w u) => show EntryPost b g (some ad) n c at_ gb out gk gg ns name w (.returned (eval E none 0)) u from by unfold EntryPost; rw [h]; exact ⟨rfl, hb, ho⟩)
  obtain ⟨Post, hPost⟩ : ∃ Post, EntryPost b g (some ad) n c at_ gb out gk gg ns name w = Post := ⟨_, rfl⟩
  rw [hPost] at HBad HOk ⊢
  clear hPost
  go_enter Tryz.func70, Tryz.ntmps70
  go_upto_region 1 with (fail)
  change Code.wp Tryz.prog _ _ _ ((w.alloc (.cells (arrN ns) 57)).alloc (.cells zrow 47))
  have hO1 := (Only.refl (fun _ => False) w).alloc (.cells (arrN ns) 57)
  have hB1 := alloc_new w (.cells (arrN ns) 57)
  obtain ⟨g1, hg1⟩ : ∃ g1, w.heap.size = g1 := ⟨_, rfl⟩
  obtain ⟨W0, hW0⟩ : ∃ W0, w.alloc (.cells (arrN ns) 57) = W0 := ⟨_, rfl⟩
  have hs0 : W0.heap.size = g1 + 1 := by rw [← hW0, ← hg1]; exact Array.size_push _
  rw [hg1, hW0] at hB1
  rw [hW0] at hO1 ⊢
  have hO2 := (Only.refl (fun _ => False) W0).alloc (.cells zrow 47)
  have hB2 := alloc_new W0 (.cells zrow 47)
  rw [hs0] at hB2
  replace hB1 := hO2.keeps hB1 id
  obtain ⟨W, hW⟩ : ∃ W, W0.alloc (.cells zrow 47) = W := ⟨_, rfl⟩
  rw [hW] at hO2 hB1 hB2 ⊢
  have hO := hO1.trans' hO2
  have HO := Lib.hid hO
  have HB1 := Lib.hid hB1
  have HB2 := Lib.hid hB2
  have hb := hO.keeps HB.out id
  have HBW := Lib.hid hb
  have HGl := Lib.hid (show g < g1 by rw [← hg1]; exact Only.heap_lt HB.out)
  have hcell : ∀ i, i < 13 → W.cell? ⟨g1, i, none⟩ = some (.int .i64 ((ns.getD i 0 : Nat) : Int)) := fun i hi => (Joins.cell_of_block hB1 i).trans (arrN_get (by rw [HNs.out.1]; exact hi))
  obtain ⟨x12, hx12⟩ : ∃ x, ns.getD 12 0 = x := ⟨_, rfl⟩
  obtain ⟨x1, hx1⟩ : ∃ x, ns.getD 1 0 = x := ⟨_, rfl⟩
  obtain ⟨x3, hx3⟩ : ∃ x, ns.getD 3 0 = x := ⟨_, rfl⟩
  obtain ⟨x4, hx4⟩ : ∃ x, ns.getD 4 0 = x := ⟨_, rfl⟩
  obtain ⟨x5, hx5⟩ : ∃ x, ns.getD 5 0 = x := ⟨_, rfl⟩
  obtain ⟨x6, hx6⟩ : ∃ x, ns.getD 6 0 = x := ⟨_, rfl⟩
  have c12 := hcell 12 (by omega)
  have c1 := hcell 1 (by omega)
  have c3 := hcell 3 (by omega)
  have c4 := hcell 4 (by omega)
  have c5 := hcell 5 (by omega)
  have c6 := hcell 6 (by omega)
  rw [hx12] at c12
  rw [hx1] at c1
  rw [hx3] at c3
  rw [hx4] at c4
  rw [hx5] at c5
  rw [hx6] at c6
  have b1 := HNs.out.at 1
  have b3 := HNs.out.at 3
  have b4 := HNs.out.at 4
  have b5 := HNs.out.at 5
  have b6 := HNs.out.at 6
  rw [hx1] at b1
  rw [hx3] at b3
  rw [hx4] at b4
  rw [hx5] at b5
  rw [hx6] at b6
  have HX := Lib.hid (And.intro hx12 (And.intro hx1 (And.intro hx3 (And.intro hx4 (And.intro hx5 hx6)))))
  rw [hg1]
  obtain ⟨g2, hg2⟩ : ∃ g2, g1 + 1 = g2 := ⟨_, rfl⟩
  have HG12 := Lib.hid (show g2 = g1 + 1 from hg2.symm)
  have HSZ := Lib.hid (show W.heap.size = g2 + 1 by rw [← hW, ← hg2, ← hs0]; exact Array.size_push _)
  have HGE := Lib.hid (show w.heap.size ≤ g1 ∧ w.heap.size ≤ g2 by omega)
  rw [hg2] at HB2 ⊢
  clear hO1 hO2 hB1 hB2 hO hW0 hW hs0 hg1 hg2 hb hcell hx12 hx1 hx3 hx4 hx5 hx6
  clear W0
  by_cases k12 : x12 = 0
  case neg =>
    have d := (show ((x12 : Int) == 0) = false from by rw [beq_eq_false_iff_ne]; omega)
    have HP := Lib.hid (HBad.out (by unfold entryL; rw [if_pos (by rw [HX.out.1]; exact k12)]) W (HO.out.mono (fun _ _ h => h.elim)))
    clear k12
    go_wp2_with (go_at_call 64; refine (must_f ?hc _).mono ?_; case hc => first | rfl | assumption
                 rintro e w1 ⟨rfl, rfl⟩)
    exact ⟨rfl, HP.out⟩
  have d12 := (show ((x12 : Int) == 0) = true from by rw [beq_iff_eq]; omega)
  go_upto_region 2 with (go_at_call 64; refine (must_t ?hc _).mono ?_; case hc => first | rfl | assumption
                         rintro e w1 ⟨rfl, rfl⟩)
  have hm := and4095 (x1 : Int)
  obtain ⟨md, hmd⟩ : ∃ md : Nat, x1 % 4096 = md := ⟨_, rfl⟩
  obtain ⟨q, hq⟩ : ∃ q : Nat, x1 / 4096 = q := ⟨_, rfl⟩
  have hm2 : Go.bits .and .i64 (x1 : Int) 4095 = (md : Int) := by rw [hm, ← hmd]; omega
  have hq2 : (x1 : Int) / 4096 = (q : Int) := by rw [← hq]; omega
  have hqb : q ≤ 1048575 := by omega
  have HMd := Lib.hid (And.intro hmd hq)
  obtain ⟨tm, htm⟩ : ∃ tm, floatOfInt .f64 (x5 : Int) = tm := ⟨_, rfl⟩
  have HTm := Lib.hid htm
  have HK12 := Lib.hid k12
  clear hm hmd hq k12
  go_upto_region 3 with (first
    | ((with_reducible refine gate_store 47 rfl ?_); refine store_newE rfl rfl ⟨[], 0, md, x3, x4, tm, [], []⟩ none 0 _ _ rfl rfl (by rw [← HTm.out]; rfl) ?_; intro w3 hb3 ho3))
  have HS3 := Lib.hid (show EnSt w g g1 g2 W.heap.size ns (prow (some ad) n c at_ gb out gk gg) ⟨[], 0, md, x3, x4, tm, [], []⟩ w3 from by
    have hs := HSZ.out
    have h12 := HG12.out
    have h1 := HGl.out
    exact ⟨ho3.keeps HBW.out id, ho3.keeps HB1.out id, ho3.keeps HB2.out id, hb3, (HO.out.trans' ho3).mono (fun _ _ h => h.elim), by omega, by omega, by omega, by have := HGE.out; omega⟩)
  obtain ⟨g3, hg3⟩ : ∃ g3, W.heap.size = g3 := ⟨_, rfl⟩
  rw [hg3] at HS3 ⊢
  clear c1 c3 c4 c5 c6 c12 hb3 ho3 hg3 HSZ HO HB1 HB2 HBW HGl HG12 HGE
  clear W
  have c1 := HS3.out.c HNs.out 1 (by omega)
  rw [HX.out.2.1] at c1
  -- roads
  by_cases q8 : q = 8
  case pos =>
    have e8 := (show ((q : Int) == 8) = true from by rw [beq_iff_eq]; omega)
    have HK := Lib.hid (show kindN (ns.getD 1 0) = 1 by unfold kindN; rw [HX.out.2.1, HMd.out.2, if_pos q8])
    clear q8
    have f1 := frozen_of_row w3 g3 1 _ _ HS3.out.row
    have o1 : w3.cell? ⟨g3, 1, none⟩ = some (.int .i64 0) := Joins.cell_of_block HS3.out.row 1
    go_upto_region 11 with (fail)
    have HS4 := Lib.hid (HS3.out.put 1 (.int .i64 1) (E' := ⟨[], 1, md, x3, x4, tm, [], []⟩) rfl)
    obtain ⟨w4, hw4⟩ : ∃ w4, w3.setCell ⟨g3, 1, none⟩ (.int .i64 1) = w4 := ⟨_, rfl⟩
    rw [hw4] at HS4 ⊢
    clear hw4 f1 o1 c1 HS3
    clear w3
    have r3 : w4.cell? ⟨g3, 3, none⟩ = some (.int .i64 x3) := Joins.cell_of_block HS4.out.row 3
    have r4 : w4.cell? ⟨g3, 4, none⟩ = some (.int .i64 x4) := Joins.cell_of_block HS4.out.row 4
    have HE1 := Lib.hid (show entryL b at_ ns name = if ¬ x3 ≤ 2147483647 then none else if ¬ x4 ≤ 2147483647 then none else match cleanL name with | none => none | some s => some (entB ns s, at_) by
      unfold entryL
      rw [if_neg (by rw [HX.out.1]; exact fun h => h HK12.out), if_neg (by rw [HK.out]; decide), HX.out.2.2.1, HX.out.2.2.2.1]
      by_cases a3 : ¬ x3 ≤ 2147483647
      · rw [if_pos a3, if_pos a3]
      · rw [if_neg a3, if_neg a3]
        by_cases a4 : ¬ x4 ≤ 2147483647
        · rw [if_pos a4, if_pos a4]
        · rw [if_neg a4, if_neg a4]
          cases cleanL name with
          | none => rfl
          | some s => dsimp only; rw [HK.out, if_neg (by decide), if_neg (by decide)])
    have HEB := Lib.hid (show ∀ s, entB ns s = ⟨s, 1, md, x3, x4, tm, [], []⟩ from fun s => by unfold entB; rw [HK.out, HX.out.2.1, HMd.out.1, HX.out.2.2.1, HX.out.2.2.2.1, HX.out.2.2.2.2.1, HTm.out])
    by_cases k3 : x3 ≤ 2147483647
    case neg =>
      have d3 := (show decide ((x3 : Int) ≤ 2147483647) = false from decide_eq_false (by omega))
      have HP := Lib.hid (HBad.out (by rw [HE1.out, if_pos k3]) w4 HS4.out.only)
      clear k3
      go_wp2_with (go_at_call 64; refine (must_f ?hc _).mono ?_; case hc => first | rfl | assumption
                   rintro e w9 ⟨rfl, rfl⟩)
      exact ⟨rfl, HP.out⟩
    have d3 := (show decide ((x3 : Int) ≤ 2147483647) = true from decide_eq_true (by omega))
    have HK3 := Lib.hid k3
    clear k3
    by_cases k4 : x4 ≤ 2147483647
    case neg =>
      have d4 := (show decide ((x4 : Int) ≤ 2147483647) = false from decide_eq_false (by omega))
      have HP := Lib.hid (HBad.out (by rw [HE1.out, if_neg (fun h => h HK3.out), if_pos k4]) w4 HS4.out.only)
      clear k4
      go_wp2_with (go_at_call 64; refine (must_f ?hc _).mono ?_; case hc => first | rfl | assumption
                   rintro e w9 ⟨rfl, rfl⟩)
      exact ⟨rfl, HP.out⟩
    have d4 := (show decide ((x4 : Int) ≤ 2147483647) = true from decide_eq_true (by omega))
    have HK4 := Lib.hid k4
    clear k4
    replace HE1 := Lib.hid (HE1.out.trans ((if_neg (fun h => h HK3.out)).trans (if_neg (fun h => h HK4.out))))
    go_upto_region 12 with (go_at_call 64; refine (must_t ?hc _).mono ?_; case hc => first | rfl | assumption
                            rintro e w9 ⟨rfl, rfl⟩)
    have HCl := Lib.hid (clean_any S w4 (by rw [← HS.out, B_size]; exact HNm.out) (HM.out.but HS4.out.only HGm.out))
    have HSd := Lib.hid (show S.data.toList = name by rw [← HS.out, B_data])
    cases hcl : cleanL name with
    | none =>
      have HP := Lib.hid (fun u h => HBad.out (by rw [HE1.out, hcl]) u h)
      have hb0 : cleanB S = false := by unfold cleanB; rw [HSd.out, hcl]; rfl
      have HB0 := Lib.hid hb0
      clear hcl hb0
      go_upto_region 13 with (go_at_call 86; refine HCl.out.mono ?_; rintro e w5 ⟨rfl, h5⟩; have H5 := Lib.hid h5; clear h5)
      rw [HB0.out]
      go_wp2_with (go_at_call 64; refine (must_f ?hc _).mono ?_; case hc => first | rfl | assumption
                   rintro e w9 ⟨rfl, rfl⟩)
      exact ⟨rfl, HP.out _ (HS4.out.step H5.out).only⟩
    | some s =>
      have HB0 := Lib.hid (show cleanB S = true ∧ cleanS S = B s by unfold cleanB cleanS; rw [HSd.out, hcl]; exact ⟨rfl, rfl⟩)
      have HE2 := Lib.hid (show entryL b at_ ns name = some (entB ns s, at_) by rw [HE1.out, hcl])
      clear hcl r3 r4 d3 d4
      go_upto_region 13 with (go_at_call 86; refine HCl.out.mono ?_; rintro e w5 ⟨rfl, h5⟩; have H5 := Lib.hid h5; clear h5)
      rw [HB0.out.1, HB0.out.2]
      obtain ⟨SP, hSP⟩ : ∃ SP, B s = SP := ⟨_, rfl⟩
      have HSP := Lib.hid hSP
      rw [hSP]
      clear hSP
      have HS5 := Lib.hid (HS4.out.step H5.out)
      have f0 := frozen_of_row w5 g3 0 _ _ HS5.out.row
      have o0 : w5.cell? ⟨g3, 0, none⟩ = some (.string ⟨#[]⟩) := Joins.cell_of_block HS5.out.row 0
      clear HS4 HCl H5
      clear w4
      go_upto_region 15 with (go_at_call 64; refine (must_t ?hc _).mono ?_; case hc => first | rfl | assumption
                              rintro e w9 ⟨rfl, rfl⟩)
      have HS6 := Lib.hid (HS5.out.put 0 (.string SP) (E' := ⟨s, 1, md, x3, x4, tm, [], []⟩) (by rw [← HSP.out]; rfl))
      obtain ⟨w6, hw6⟩ : ∃ w6, w5.setCell ⟨g3, 0, none⟩ (.string SP) = w6 := ⟨_, rfl⟩
      rw [hw6] at HS6 ⊢
      clear hw6 f0 o0 HS5
      clear w5
      have r1 : w6.cell? ⟨g3, 1, none⟩ = some (.int .i64 1) := Joins.cell_of_block HS6.out.row 1
      have c6 := HS6.out.c HNs.out 6 (by omega)
      rw [HX.out.2.2.2.2.2] at c6
      go_wp2_with (first
        | ((with_reducible refine gate 89 rfl ?_); refine load_ent (E := ⟨s, 1, md, x3, x4, tm, [], []⟩) (A := none) (c := 0) rfl _ rfl rfl HS6.out.row ?_)
        | ((with_reducible refine gate_store 47 rfl ?_); refine store_ent rfl (cs0 := zrow) rfl ⟨s, 1, md, x3, x4, tm, [], []⟩ none 0 _ _ rfl rfl rfl HS6.out.res ?_; intro w8 hb8 ho8; have HB8 := Lib.hid hb8; have HO8 := Lib.hid ho8; clear hb8 ho8))
      refine bodyPost_ret (results_cell1 rfl rfl (loadE HB8.out)) rfl ?_
      have hlt := HS6.out.lt
      exact HOk.out _ _ (by rw [HE2.out, HEB.out]) _ (HO8.out.keeps HS6.out.par (by omega)) (HS6.out.only.trans HO8.out (fun k hk => Or.inr (by omega)))
  by_cases q4 : q = 4
  case pos =>
    have e8 := (show ((q : Int) == 8) = false from by rw [beq_eq_false_iff_ne]; omega)
    have e4 := (show ((q : Int) == 4) = true from by rw [beq_iff_eq]; omega)
    have HK := Lib.hid (show kindN (ns.getD 1 0) = 2 by unfold kindN; rw [HX.out.2.1, HMd.out.2, if_neg q8, if_pos q4])
    clear q8 q4
    have f1 := frozen_of_row w3 g3 1 _ _ HS3.out.row
    have o1 : w3.cell? ⟨g3, 1, none⟩ = some (.int .i64 0) := Joins.cell_of_block HS3.out.row 1
    go_upto_region 11 with (fail)
    have HS4 := Lib.hid (HS3.out.put 1 (.int .i64 2) (E' := ⟨[], 2, md, x3, x4, tm, [], []⟩) rfl)
    obtain ⟨w4, hw4⟩ : ∃ w4, w3.setCell ⟨g3, 1, none⟩ (.int .i64 2) = w4 := ⟨_, rfl⟩
    rw [hw4] at HS4 ⊢
    clear hw4 f1 o1 c1 HS3
    clear w3
    have r3 : w4.cell? ⟨g3, 3, none⟩ = some (.int .i64 x3) := Joins.cell_of_block HS4.out.row 3
    have r4 : w4.cell? ⟨g3, 4, none⟩ = some (.int .i64 x4) := Joins.cell_of_block HS4.out.row 4
    have HE1 := Lib.hid (show entryL b at_ ns name = if ¬ x3 ≤ 2147483647 then none else if ¬ x4 ≤ 2147483647 then none else match cleanL name with | none => none | some s => (if x6 = 0 then some (entB ns s, at_) else none) by
      unfold entryL
      rw [if_neg (by rw [HX.out.1]; exact fun h => h HK12.out), if_neg (by rw [HK.out]; decide), HX.out.2.2.1, HX.out.2.2.2.1]
      by_cases a3 : ¬ x3 ≤ 2147483647
      · rw [if_pos a3, if_pos a3]
      · rw [if_neg a3, if_neg a3]
        by_cases a4 : ¬ x4 ≤ 2147483647
        · rw [if_pos a4, if_pos a4]
        · rw [if_neg a4, if_neg a4]
          cases cleanL name with
          | none => rfl
          | some s => dsimp only; rw [HK.out, if_pos rfl, HX.out.2.2.2.2.2])
    have HEB := Lib.hid (show ∀ s, entB ns s = ⟨s, 2, md, x3, x4, tm, [], []⟩ from fun s => by unfold entB; rw [HK.out, HX.out.2.1, HMd.out.1, HX.out.2.2.1, HX.out.2.2.2.1, HX.out.2.2.2.2.1, HTm.out])
    by_cases k3 : x3 ≤ 2147483647
    case neg =>
      have d3 := (show decide ((x3 : Int) ≤ 2147483647) = false from decide_eq_false (by omega))
      have HP := Lib.hid (HBad.out (by rw [HE1.out, if_pos k3]) w4 HS4.out.only)
      clear k3
      go_wp2_with (go_at_call 64; refine (must_f ?hc _).mono ?_; case hc => first | rfl | assumption
                   rintro e w9 ⟨rfl, rfl⟩)
      exact ⟨rfl, HP.out⟩
    have d3 := (show decide ((x3 : Int) ≤ 2147483647) = true from decide_eq_true (by omega))
    have HK3 := Lib.hid k3
    clear k3
    by_cases k4 : x4 ≤ 2147483647
    case neg =>
      have d4 := (show decide ((x4 : Int) ≤ 2147483647) = false from decide_eq_false (by omega))
      have HP := Lib.hid (HBad.out (by rw [HE1.out, if_neg (fun h => h HK3.out), if_pos k4]) w4 HS4.out.only)
      clear k4
      go_wp2_with (go_at_call 64; refine (must_f ?hc _).mono ?_; case hc => first | rfl | assumption
                   rintro e w9 ⟨rfl, rfl⟩)
      exact ⟨rfl, HP.out⟩
    have d4 := (show decide ((x4 : Int) ≤ 2147483647) = true from decide_eq_true (by omega))
    have HK4 := Lib.hid k4
    clear k4
    replace HE1 := Lib.hid (HE1.out.trans ((if_neg (fun h => h HK3.out)).trans (if_neg (fun h => h HK4.out))))
    go_upto_region 12 with (go_at_call 64; refine (must_t ?hc _).mono ?_; case hc => first | rfl | assumption
                            rintro e w9 ⟨rfl, rfl⟩)
    have HCl := Lib.hid (clean_any S w4 (by rw [← HS.out, B_size]; exact HNm.out) (HM.out.but HS4.out.only HGm.out))
    have HSd := Lib.hid (show S.data.toList = name by rw [← HS.out, B_data])
    cases hcl : cleanL name with
    | none =>
      have HP := Lib.hid (fun u h => HBad.out (by rw [HE1.out, hcl]) u h)
      have hb0 : cleanB S = false := by unfold cleanB; rw [HSd.out, hcl]; rfl
      have HB0 := Lib.hid hb0
      clear hcl hb0
      go_upto_region 13 with (go_at_call 86; refine HCl.out.mono ?_; rintro e w5 ⟨rfl, h5⟩; have H5 := Lib.hid h5; clear h5)
      rw [HB0.out]
      go_wp2_with (go_at_call 64; refine (must_f ?hc _).mono ?_; case hc => first | rfl | assumption
                   rintro e w9 ⟨rfl, rfl⟩)
      exact ⟨rfl, HP.out _ (HS4.out.step H5.out).only⟩
    | some s =>
      have HB0 := Lib.hid (show cleanB S = true ∧ cleanS S = B s by unfold cleanB cleanS; rw [HSd.out, hcl]; exact ⟨rfl, rfl⟩)
      have HE2 := Lib.hid (show entryL b at_ ns name = (if x6 = 0 then some (entB ns s, at_) else none) by rw [HE1.out, hcl])
      clear hcl r3 r4 d3 d4
      go_upto_region 13 with (go_at_call 86; refine HCl.out.mono ?_; rintro e w5 ⟨rfl, h5⟩; have H5 := Lib.hid h5; clear h5)
      rw [HB0.out.1, HB0.out.2]
      obtain ⟨SP, hSP⟩ : ∃ SP, B s = SP := ⟨_, rfl⟩
      have HSP := Lib.hid hSP
      rw [hSP]
      clear hSP
      have HS5 := Lib.hid (HS4.out.step H5.out)
      have f0 := frozen_of_row w5 g3 0 _ _ HS5.out.row
      have o0 : w5.cell? ⟨g3, 0, none⟩ = some (.string ⟨#[]⟩) := Joins.cell_of_block HS5.out.row 0
      clear HS4 HCl H5
      clear w4
      go_upto_region 15 with (go_at_call 64; refine (must_t ?hc _).mono ?_; case hc => first | rfl | assumption
                              rintro e w9 ⟨rfl, rfl⟩)
      have HS6 := Lib.hid (HS5.out.put 0 (.string SP) (E' := ⟨s, 2, md, x3, x4, tm, [], []⟩) (by rw [← HSP.out]; rfl))
      obtain ⟨w6, hw6⟩ : ∃ w6, w5.setCell ⟨g3, 0, none⟩ (.string SP) = w6 := ⟨_, rfl⟩
      rw [hw6] at HS6 ⊢
      clear hw6 f0 o0 HS5
      clear w5
      have r1 : w6.cell? ⟨g3, 1, none⟩ = some (.int .i64 2) := Joins.cell_of_block HS6.out.row 1
      have c6 := HS6.out.c HNs.out 6 (by omega)
      rw [HX.out.2.2.2.2.2] at c6
      by_cases k6 : x6 = 0
      case neg =>
        have d6 := (show ((x6 : Int) == 0) = false from by rw [beq_eq_false_iff_ne]; omega)
        have HP := Lib.hid (HBad.out (by rw [HE2.out, if_neg k6]) w6 HS6.out.only)
        clear k6
        go_wp2_with (go_at_call 64; refine (must_f ?hc _).mono ?_; case hc => first | rfl | assumption
                     rintro e w9 ⟨rfl, rfl⟩)
        exact ⟨rfl, HP.out⟩
      have d6 := (show ((x6 : Int) == 0) = true from by rw [beq_iff_eq]; omega)
      have HE3 := Lib.hid (HE2.out.trans (if_pos k6))
      clear k6
      go_upto_region 24 with (go_at_call 64; refine (must_t ?hc _).mono ?_; case hc => first | rfl | assumption
                              rintro e w9 ⟨rfl, rfl⟩)
      go_wp2_with (first
        | ((with_reducible refine gate 89 rfl ?_); refine load_ent (E := ⟨s, 2, md, x3, x4, tm, [], []⟩) (A := none) (c := 0) rfl _ rfl rfl HS6.out.row ?_)
        | ((with_reducible refine gate_store 47 rfl ?_); refine store_ent rfl (cs0 := zrow) rfl ⟨s, 2, md, x3, x4, tm, [], []⟩ none 0 _ _ rfl rfl rfl HS6.out.res ?_; intro w8 hb8 ho8; have HB8 := Lib.hid hb8; have HO8 := Lib.hid ho8; clear hb8 ho8))
      refine bodyPost_ret (results_cell1 rfl rfl (loadE HB8.out)) rfl ?_
      have hlt := HS6.out.lt
      exact HOk.out _ _ (by rw [HE3.out, HEB.out]) _ (HO8.out.keeps HS6.out.par (by omega)) (HS6.out.only.trans HO8.out (fun k hk => Or.inr (by omega)))
  by_cases q10 : q = 10
  case pos =>
    have e8 := (show ((q : Int) == 8) = false from by rw [beq_eq_false_iff_ne]; omega)
    have e4 := (show ((q : Int) == 4) = false from by rw [beq_eq_false_iff_ne]; omega)
    have e10 := (show ((q : Int) == 10) = true from by rw [beq_iff_eq]; omega)
    have HK := Lib.hid (show kindN (ns.getD 1 0) = 3 by unfold kindN; rw [HX.out.2.1, HMd.out.2, if_neg q8, if_neg q4, if_pos q10])
    clear q8 q4 q10
    have f1 := frozen_of_row w3 g3 1 _ _ HS3.out.row
    have o1 : w3.cell? ⟨g3, 1, none⟩ = some (.int .i64 0) := Joins.cell_of_block HS3.out.row 1
    go_upto_region 11 with (fail)
    have HS4 := Lib.hid (HS3.out.put 1 (.int .i64 3) (E' := ⟨[], 3, md, x3, x4, tm, [], []⟩) rfl)
    obtain ⟨w4, hw4⟩ : ∃ w4, w3.setCell ⟨g3, 1, none⟩ (.int .i64 3) = w4 := ⟨_, rfl⟩
    rw [hw4] at HS4 ⊢
    clear hw4 f1 o1 c1 HS3
    clear w3
    have r3 : w4.cell? ⟨g3, 3, none⟩ = some (.int .i64 x3) := Joins.cell_of_block HS4.out.row 3
    have r4 : w4.cell? ⟨g3, 4, none⟩ = some (.int .i64 x4) := Joins.cell_of_block HS4.out.row 4
    have HE1 := Lib.hid (show entryL b at_ ns name = if ¬ x3 ≤ 2147483647 then none else if ¬ x4 ≤ 2147483647 then none else match cleanL name with | none => none | some s => (if ¬ 1 ≤ x6 then none else if ¬ x6 ≤ 4096 then none else if b.length < at_ + x6 then none else if noZ ((b.drop at_).take x6) = false then none else if b.length < at_ + x6 + padN (at_ + x6) then none else some ({ entB ns s with target := (b.drop at_).take x6 }, at_ + x6 + padN (at_ + x6))) by
      unfold entryL
      rw [if_neg (by rw [HX.out.1]; exact fun h => h HK12.out), if_neg (by rw [HK.out]; decide), HX.out.2.2.1, HX.out.2.2.2.1]
      by_cases a3 : ¬ x3 ≤ 2147483647
      · rw [if_pos a3, if_pos a3]
      · rw [if_neg a3, if_neg a3]
        by_cases a4 : ¬ x4 ≤ 2147483647
        · rw [if_pos a4, if_pos a4]
        · rw [if_neg a4, if_neg a4]
          cases cleanL name with
          | none => rfl
          | some s => dsimp only; rw [HK.out, if_neg (by decide), if_pos rfl, HX.out.2.2.2.2.2])
    have HEB := Lib.hid (show ∀ s, entB ns s = ⟨s, 3, md, x3, x4, tm, [], []⟩ from fun s => by unfold entB; rw [HK.out, HX.out.2.1, HMd.out.1, HX.out.2.2.1, HX.out.2.2.2.1, HX.out.2.2.2.2.1, HTm.out])
    by_cases k3 : x3 ≤ 2147483647
    case neg =>
      have d3 := (show decide ((x3 : Int) ≤ 2147483647) = false from decide_eq_false (by omega))
      have HP := Lib.hid (HBad.out (by rw [HE1.out, if_pos k3]) w4 HS4.out.only)
      clear k3
      go_wp2_with (go_at_call 64; refine (must_f ?hc _).mono ?_; case hc => first | rfl | assumption
                   rintro e w9 ⟨rfl, rfl⟩)
      exact ⟨rfl, HP.out⟩
    have d3 := (show decide ((x3 : Int) ≤ 2147483647) = true from decide_eq_true (by omega))
    have HK3 := Lib.hid k3
    clear k3
    by_cases k4 : x4 ≤ 2147483647
    case neg =>
      have d4 := (show decide ((x4 : Int) ≤ 2147483647) = false from decide_eq_false (by omega))
      have HP := Lib.hid (HBad.out (by rw [HE1.out, if_neg (fun h => h HK3.out), if_pos k4]) w4 HS4.out.only)
      clear k4
      go_wp2_with (go_at_call 64; refine (must_f ?hc _).mono ?_; case hc => first | rfl | assumption
                   rintro e w9 ⟨rfl, rfl⟩)
      exact ⟨rfl, HP.out⟩
    have d4 := (show decide ((x4 : Int) ≤ 2147483647) = true from decide_eq_true (by omega))
    have HK4 := Lib.hid k4
    clear k4
    replace HE1 := Lib.hid (HE1.out.trans ((if_neg (fun h => h HK3.out)).trans (if_neg (fun h => h HK4.out))))
    go_upto_region 12 with (go_at_call 64; refine (must_t ?hc _).mono ?_; case hc => first | rfl | assumption
                            rintro e w9 ⟨rfl, rfl⟩)
    have HCl := Lib.hid (clean_any S w4 (by rw [← HS.out, B_size]; exact HNm.out) (HM.out.but HS4.out.only HGm.out))
    have HSd := Lib.hid (show S.data.toList = name by rw [← HS.out, B_data])
    cases hcl : cleanL name with
    | none =>
      have HP := Lib.hid (fun u h => HBad.out (by rw [HE1.out, hcl]) u h)
      have hb0 : cleanB S = false := by unfold cleanB; rw [HSd.out, hcl]; rfl
      have HB0 := Lib.hid hb0
      clear hcl hb0
      go_upto_region 13 with (go_at_call 86; refine HCl.out.mono ?_; rintro e w5 ⟨rfl, h5⟩; have H5 := Lib.hid h5; clear h5)
      rw [HB0.out]
      go_wp2_with (go_at_call 64; refine (must_f ?hc _).mono ?_; case hc => first | rfl | assumption
                   rintro e w9 ⟨rfl, rfl⟩)
      exact ⟨rfl, HP.out _ (HS4.out.step H5.out).only⟩
    | some s =>
      have HB0 := Lib.hid (show cleanB S = true ∧ cleanS S = B s by unfold cleanB cleanS; rw [HSd.out, hcl]; exact ⟨rfl, rfl⟩)
      have HE2 := Lib.hid (show entryL b at_ ns name = (if ¬ 1 ≤ x6 then none else if ¬ x6 ≤ 4096 then none else if b.length < at_ + x6 then none else if noZ ((b.drop at_).take x6) = false then none else if b.length < at_ + x6 + padN (at_ + x6) then none else some ({ entB ns s with target := (b.drop at_).take x6 }, at_ + x6 + padN (at_ + x6))) by rw [HE1.out, hcl])
      clear hcl r3 r4 d3 d4
      go_upto_region 13 with (go_at_call 86; refine HCl.out.mono ?_; rintro e w5 ⟨rfl, h5⟩; have H5 := Lib.hid h5; clear h5)
      rw [HB0.out.1, HB0.out.2]
      obtain ⟨SP, hSP⟩ : ∃ SP, B s = SP := ⟨_, rfl⟩
      have HSP := Lib.hid hSP
      rw [hSP]
      clear hSP
      have HS5 := Lib.hid (HS4.out.step H5.out)
      have f0 := frozen_of_row w5 g3 0 _ _ HS5.out.row
      have o0 : w5.cell? ⟨g3, 0, none⟩ = some (.string ⟨#[]⟩) := Joins.cell_of_block HS5.out.row 0
      clear HS4 HCl H5
      clear w4
      go_upto_region 15 with (go_at_call 64; refine (must_t ?hc _).mono ?_; case hc => first | rfl | assumption
                              rintro e w9 ⟨rfl, rfl⟩)
      have HS6 := Lib.hid (HS5.out.put 0 (.string SP) (E' := ⟨s, 3, md, x3, x4, tm, [], []⟩) (by rw [← HSP.out]; rfl))
      obtain ⟨w6, hw6⟩ : ∃ w6, w5.setCell ⟨g3, 0, none⟩ (.string SP) = w6 := ⟨_, rfl⟩
      rw [hw6] at HS6 ⊢
      clear hw6 f0 o0 HS5
      clear w5
      have r1 : w6.cell? ⟨g3, 1, none⟩ = some (.int .i64 3) := Joins.cell_of_block HS6.out.row 1
      have c6 := HS6.out.c HNs.out 6 (by omega)
      rw [HX.out.2.2.2.2.2] at c6
      by_cases k1 : 1 ≤ x6
      case neg =>
        have d6 := (show decide ((x6 : Int) ≥ 1) = false from decide_eq_false (by omega))
        have d6' := (show decide (1 ≤ x6) = false from decide_eq_false (by omega))
        have HP := Lib.hid (HBad.out (by rw [HE2.out, if_pos k1]) w6 HS6.out.only)
        clear k1
        go_wp2_with (go_at_call 64; refine (must_f ?hc _).mono ?_; case hc => first | rfl | assumption
                     rintro e w9 ⟨rfl, rfl⟩)
        exact ⟨rfl, HP.out⟩
      have d61 := (show decide ((x6 : Int) ≥ 1) = true from decide_eq_true (by omega))
      have d61' := (show decide (1 ≤ x6) = true from decide_eq_true (by omega))
      have HK1 := Lib.hid k1
      clear k1
      by_cases k2 : x6 ≤ 4096
      case neg =>
        have d6 := (show decide ((x6 : Int) ≤ 4096) = false from decide_eq_false (by omega))
        have HP := Lib.hid (HBad.out (by rw [HE2.out, if_neg (fun h => h HK1.out), if_pos k2]) w6 HS6.out.only)
        clear k2
        go_wp2_with (go_at_call 64; refine (must_f ?hc _).mono ?_; case hc => first | rfl | assumption
                     rintro e w9 ⟨rfl, rfl⟩)
        exact ⟨rfl, HP.out⟩
      have d62 := (show decide ((x6 : Int) ≤ 4096) = true from decide_eq_true (by omega))
      have HK2 := Lib.hid k2
      clear k2
      replace HE2 := Lib.hid (HE2.out.trans ((if_neg (fun h => h HK1.out)).trans (if_neg (fun h => h HK2.out))))
      by_cases k3 : n < at_ + x6
      case pos =>
        have HT := Lib.hid (take_no HS6.out.par (x6 : Int) (Nat.le_trans HL.out (by omega)) HAt.out (by omega))
        have HP := Lib.hid (fun u h => HBad.out (by rw [HE2.out, if_pos (by rw [HN.out]; exact k3)]) u h)
        clear k3
        go_wp2_with (first
          | (go_at_call 64; refine (must_t ?hc _).mono ?_; case hc => first | rfl | assumption
             rintro e w9 ⟨rfl, rfl⟩)
          | (go_at_call 65; refine HT.out.mono ?_; rintro e w9 ⟨rfl, h9⟩; have H9 := Lib.hid h9; clear h9))
        exact ⟨rfl, HP.out _ (HS6.out.step H9.out).only⟩
      have HT := Lib.hid (take_yes HS6.out.par x6 (Nat.le_trans HL.out (by omega)) HC.out (by omega))
      have HK3b := Lib.hid k3
      replace HE2 := Lib.hid (HE2.out.trans (if_neg (by rw [HN.out]; exact k3)))
      clear k3
      go_upto_region 21 with (first
          | (go_at_call 64; refine (must_t ?hc _).mono ?_; case hc => first | rfl | assumption
             rintro e w9 ⟨rfl, rfl⟩)
          | (go_at_call 65; refine HT.out.mono ?_; rintro e w7 ⟨A7, rfl, h7, hb7, ho7⟩; have HA7 := Lib.hid (h7 HK1.out); have HB7 := Lib.hid hb7; have HO7 := Lib.hid ho7; clear h7 hb7 ho7))
      have HA8 := HA7.out
      obtain rfl := HA8
      have HS7 := Lib.hid (HS6.out.take HB7.out HO7.out)
      have HR7 := Lib.hid (rdU_part (at_ := at_) (k := x6) (u := w7) (by rw [HN.out]; have := HK3b.out; omega) (HR.out.apart HS7.out.only (fun ad' e _ => by cases e; exact HG.out)))
      have HTl := Lib.hid (show ((b.drop at_).take x6).length = x6 by rw [List.length_take, List.length_drop, HN.out]; have := HK3b.out; omega)
      have HIx := Lib.hid (ixb_any (c := c - at_) HTl.out HK1.out HR7.out)
      obtain ⟨T, hT⟩ : ∃ T, (b.drop at_).take x6 = T := ⟨_, rfl⟩
      rw [hT] at HR7 HTl HIx HE2
      obtain ⟨ix, hix⟩ : ∃ ix, Lib.indexByte T 0 = ix := ⟨_, rfl⟩
      rw [hix] at HIx
      have HNz := Lib.hid (show decide (ix < 0) = noZ T by rw [← hix]; exact index_noZ T)
      have hcv := str_u (c - at_) HR7.out HTl.out
      obtain ⟨C7, hC7⟩ : ∃ C7, c - at_ = C7 := ⟨_, rfl⟩
      rw [hC7] at HIx hcv ⊢
      clear hT hix HS6 HT HA7 HB7 HO7 r1 c6 hC7
      clear w6
      cases hz : noZ T with
      | false =>
        have d7 : decide (ix < 0) = false := HNz.out.trans hz
        have HP := Lib.hid (HBad.out (by rw [HE2.out, if_pos hz]) w7 HS7.out.only)
        clear hz
        go_wp2_with (first
          | (go_at_call 64; refine (must_f ?hc _).mono ?_; case hc => first | rfl | assumption
             rintro e w9 ⟨rfl, rfl⟩)
          | (go_at_call 67; refine HIx.out.mono ?_; rintro e w9 ⟨rfl, h9⟩; obtain rfl := h9.symm))
        exact ⟨rfl, HP.out⟩
      | true =>
        have d7 : decide (ix < 0) = true := HNz.out.trans hz
        replace HE2 := Lib.hid (HE2.out.trans (if_neg (by rw [hz]; decide)))
        have f6 := frozen_of_row w7 g3 6 _ _ HS7.out.row
        have o6 : w7.cell? ⟨g3, 6, none⟩ = some (.string ⟨#[]⟩) := Joins.cell_of_block HS7.out.row 6
        clear hz
        go_upto_region 23 with (first
          | (go_at_call 64; refine (must_t ?hc _).mono ?_; case hc => first | rfl | assumption
             rintro e w9 ⟨rfl, rfl⟩)
          | (go_at_call 67; refine HIx.out.mono ?_; rintro e w9 ⟨rfl, h9⟩; obtain rfl := h9.symm))
        have HS8 := Lib.hid (HS7.out.put 6 (.string (B T)) (E' := ⟨s, 3, md, x3, x4, tm, T, []⟩) rfl)
        obtain ⟨w8, hw8⟩ : ∃ w8, w7.setCell ⟨g3, 6, none⟩ (.string (B T)) = w8 := ⟨_, rfl⟩
        rw [hw8] at HS8 ⊢
        clear hw8 f6 o6 HS7 HIx hcv HR7
        clear w7
        by_cases k8 : n < at_ + x6 + padN (at_ + x6)
        · have HT := Lib.hid (align_no HS8.out.par (Nat.le_trans HL.out (by omega)) (by have := HK3b.out; omega) k8)
          have HP := Lib.hid (fun u h => HBad.out (by rw [HE2.out, if_pos (by rw [HN.out]; exact k8)]) u h)
          clear k8
          go_wp2_with (go_at_call 69; refine HT.out.mono ?_; rintro e w9 ⟨rfl, h9⟩; have H9 := Lib.hid h9; clear h9)
          exact ⟨rfl, HP.out _ (HS8.out.step H9.out).only⟩
        · have HT := Lib.hid (align_yes HS8.out.par (Nat.le_trans HL.out (by omega)) HC.out (by omega))
          replace HE2 := Lib.hid (HE2.out.trans (if_neg (by rw [HN.out]; exact k8)))
          clear k8
          go_upto_region 24 with (go_at_call 69; refine HT.out.mono ?_; rintro e w9 ⟨rfl, h9, k9⟩; have H9 := Lib.hid h9; have K9 := Lib.hid k9; clear h9 k9)
          have HS9 := Lib.hid (HS8.out.take H9.out K9.out)
          clear HS8 H9 K9 HT
          clear w8
          go_wp2_with (first
            | ((with_reducible refine gate 89 rfl ?_); refine load_ent (E := ⟨s, 3, md, x3, x4, tm, T, []⟩) (A := none) (c := 0) rfl _ rfl rfl HS9.out.row ?_)
            | ((with_reducible refine gate_store 47 rfl ?_); refine store_ent rfl (cs0 := zrow) rfl ⟨s, 3, md, x3, x4, tm, T, []⟩ none 0 _ _ rfl rfl rfl HS9.out.res ?_; intro w8 hb8 ho8; have HB8 := Lib.hid hb8; have HO8 := Lib.hid ho8; clear hb8 ho8))
          refine bodyPost_ret (results_cell1 rfl rfl (loadE HB8.out)) rfl ?_
          have hlt := HS9.out.lt
          exact HOk.out _ _ (by rw [HE2.out, HEB.out]) _ (HO8.out.keeps HS9.out.par (by omega)) (HS9.out.only.trans HO8.out (fun k hk => Or.inr (by omega)))
  have e8 := (show ((q : Int) == 8) = false from by rw [beq_eq_false_iff_ne]; omega)
  have e4 := (show ((q : Int) == 4) = false from by rw [beq_eq_false_iff_ne]; omega)
  have e10 := (show ((q : Int) == 10) = false from by rw [beq_eq_false_iff_ne]; omega)
  have HP := Lib.hid (HBad.out (by
    unfold entryL
    rw [if_neg (by rw [HX.out.1]; exact fun h => h HK12.out), if_pos (by unfold kindN; rw [HX.out.2.1, HMd.out.2, if_neg q8, if_neg q4, if_neg q10])]) w3 HS3.out.only)
  clear q8 q4 q10
  go_wp2_with (go_at_call 73; refine (fail_any 2 _).mono ?_; rintro e w9 ⟨rfl, h9⟩; obtain rfl := h9.symm)
  exact ⟨rfl, HP.out⟩
end Go.Proofs.YtpghionmmlidnaaGreatDoor.Walks
namespace Go.Proofs.YtpghionmmlidnaaGreatDoor.Walks
open Go Go.RowKit Go.Maps Go.Proofs.YtpghionmmlidnaaGreatDoor.Aid Go.Proofs.YtpghionmmlidnaaGreatDoor.Pth Go.Proofs.YtpghionmmlidnaaGreatDoor.Own Go.Proofs.YtpghionmmlidnaaGreatDoorW.PrintWords

theorem mapAny_only {H : Type} {k : TypeId} {R : Value → Option (DataW H × List MemPlace)} {w u : World} {S : Nat → Prop} {b n : Nat} {D : DataW H} (h : w.ownsMap Tryz.prog k R b n D) (ho : Only S w u) (hb : ¬ S b) : u.ownsMap Tryz.prog k R b n D := by
  obtain ⟨es, clock, h1, h2⟩ := h
  exact ⟨es, clock, ho.keeps h1 hb, h2⟩
/-- The groups are in bounds. -/
def GrpOk (grp : List Grp) (n : Nat) : Prop := ∀ x ∈ grp, KeyOk x.1 ∧ x.2.1 < n
theorem GrpOk.key {grp : List Grp} {n : Nat} (h : GrpOk grp n) : ∀ x ∈ grp, KeyOk x.1 := fun x hx => (h x hx).1
theorem gfind_mem {k : Nat × Nat × Nat} : ∀ {grp : List Grp} {v : Nat × Bool}, gfind grp k = some v → (k, v) ∈ grp
  | [], v, h => by cases h
  | x :: r, v, h => by
    unfold gfind at h
    by_cases e : x.1 = k
    · rw [if_pos e] at h
      injection h with h
      rw [← e, ← h]; exact List.mem_cons_self ..
    · rw [if_neg e] at h
      exact List.mem_cons_of_mem _ (gfind_mem h)
theorem keyN_ok {ns : List Nat} (h : NumOk ns) : KeyOk (keyN ns) := ⟨h.at 0, h.at 7, h.at 8⟩
theorem grpElem_mk2 {H : Type} (a : Int) (b : Bool) : grpElem (H := H) (.agg #[.int .i64 a, .bool b]) = some (.agg [.lit (.int .i64 a), .lit (.bool b)], []) := rfl
theorem size117 : (Tryz.prog.info? 117).map (·.size) = some 2 := by kernel_rfl
theorem load117 {w : World} {g : Nat} {r : Array Value} (hs : r.size = 2) (h : w.heap[g]? = some (.cells r 117 (0, 0))) : (loadVar 117 ⟨g, 0, none⟩).run Tryz.prog w = .ok (.agg r) w :=
  run_loadVar_row (P := Tryz.prog) w g 117 117 r (0, 0) _ h Tryz.underlying117 rfl (by rw [hs]; exact size117)
theorem size115 : (Tryz.prog.info? 115).map (·.size) = some 3 := by kernel_rfl
theorem load115 {w : World} {g : Nat} {r : Array Value} (hs : r.size = 3) (h : w.heap[g]? = some (.cells r 115 (0, 0))) : (loadVar 115 ⟨g, 0, none⟩).run Tryz.prog w = .ok (.agg r) w :=
  run_loadVar_row (P := Tryz.prog) w g 115 115 r (0, 0) _ h Tryz.underlying115 rfl (by rw [hs]; exact size115)
theorem look_none {w : World} {gg cnt : Nat} {grp : List Grp} {k : Nat × Nat × Nat} (hg : w.ownsMap Tryz.prog 115 (grpElem (H := Unit)) gg cnt (gmap grp)) (hk : KeyOk k) (hG : ∀ x ∈ grp, KeyOk x.1) (hf : gfind grp k = none) :
    (Instr.lookup 69 (.map (some gg)) (keyV k) true).run Tryz.prog w = .ok (.tuple #[gVal (0, false), .bool false]) w := by
  obtain ⟨h1, h2⟩ := gmap_find (H := Unit) hk grp hG
  obtain ⟨v, ps, hr, hv⟩ := hg.look_ok keyed115 Tryz.underlying69 (zero117 w) (grpElem_mk (0, false)) (keyOf3 hk)
  rw [h2, hf] at hv
  rw [h1, hf] at hr
  rw [hr, grpElem_inv hv]
  rfl
theorem look_some {w : World} {gg cnt : Nat} {grp : List Grp} {k : Nat × Nat × Nat} {v : Nat × Bool} (hg : w.ownsMap Tryz.prog 115 (grpElem (H := Unit)) gg cnt (gmap grp)) (hk : KeyOk k) (hG : ∀ x ∈ grp, KeyOk x.1) (hf : gfind grp k = some v) :
    (Instr.lookup 69 (.map (some gg)) (keyV k) true).run Tryz.prog w = .ok (.tuple #[gVal v, .bool true]) w := by
  obtain ⟨h1, h2⟩ := gmap_find (H := Unit) hk grp hG
  obtain ⟨v', ps, hr, hv⟩ := hg.look_ok keyed115 Tryz.underlying69 (zero117 w) (grpElem_mk (0, false)) (keyOf3 hk)
  rw [h2, hf] at hv
  rw [h1, hf] at hr
  rw [hr, grpElem_inv hv]
  rfl
theorem lv69 (a : Addr) (w : World) : (loadVar 69 a).run Tryz.prog w = (load a).run Tryz.prog w := by
  go_simp
theorem lv61 (a : Addr) (w : World) : (loadVar 61 a).run Tryz.prog w = (load a).run Tryz.prog w := by
  go_simp
theorem lv22 (a : Addr) (w : World) : (loadVar 22 a).run Tryz.prog w = (load a).run Tryz.prog w := by
  go_simp
theorem lv4 (a : Addr) (w : World) : (loadVar 4 a).run Tryz.prog w = (load a).run Tryz.prog w := by
  go_simp
theorem lv65 (a : Addr) (w : World) : (loadVar 65 a).run Tryz.prog w = (load a).run Tryz.prog w := by
  go_simp
attribute [-go_sem] loadVar
attribute [local go_sem] lv69 lv61 lv22 lv4 lv65 lv3 lv9
def NamedPost (ge gg cnt : Nat) (out : List Ent) (grp : List Grp) (E : Ent) (ns : List Nat) (w : World) (e : Ending) (w' : World) : Prop :=
  match namedL out grp E ns with
  | none => e = .panicked (faultC 2) ∧ Only (fun b => b = ge ∨ b = gg) w w'
  | some (E2, whose, grp2) => e = .returned (.int .i64 (whose : Int)) ∧ w'.heap[ge]? = some (.cells (erow E2 none 0) 47 (0, 0)) ∧ w'.ownsMap Tryz.prog 115 (grpElem (H := Unit)) gg (cnt + 1) (gmap grp2) ∧ Only (fun b => b = ge ∨ b = gg) w w'
set_option maxRecDepth 100000 in
set_option maxHeartbeats 4000000 in
theorem named_plain {w : World} {g ge gk gg cnt gb at_ n c m cap : Nat} {A Ao : Option Addr} {E : Ent} {out : List Ent} {grp : List Grp} {ns : List Nat} (hb : w.heap[g]? = some (.cells (prow A n c at_ gb (.slice Ao m cap) gk gg) 71 (0, 0))) (he : w.heap[ge]? = some (.cells (erow E none 0) 47 (0, 0)))
    (hg : w.ownsMap Tryz.prog 115 (grpElem (H := Unit)) gg cnt (gmap grp)) (hm : out.length = m) (hns : NumOk ns) (hk : E.kind ≠ 1 ∨ ns.getD 2 0 ≤ 1) :
    Calls Tryz.prog 71 #[.pointer (some ⟨g, 0, none⟩), .pointer (some ⟨ge, 0, none⟩), .agg (arrN ns)] w (NamedPost ge gg cnt out grp E ns w) := by
  have hO := (Only.refl (fun _ => False) w).alloc (.cells (arrN ns) 57)
  have hB := alloc_new w (.cells (arrN ns) 57)
  have hp := hO.keeps hb id
  have he1 := hO.keeps he id
  have hg1 := mapAny_only hg hO id
  obtain ⟨W, hW⟩ : ∃ W, w.alloc (.cells (arrN ns) 57) = W := ⟨_, rfl⟩
  obtain ⟨g1, hg1'⟩ : ∃ g1, w.heap.size = g1 := ⟨_, rfl⟩
  have HW := Lib.hid (And.intro hW hg1')
  rw [hW, hg1'] at hB
  rw [hW] at hp hO he1 hg1
  have c2 := (Joins.cell_of_block hB 2).trans (arrN_get (by rw [hns.1]; decide))
  have k3 : W.cell? ⟨g, 3, none⟩ = some (.slice Ao m cap) := Joins.cell_of_block hp 3
  have e1 : W.cell? ⟨ge, 1, none⟩ = some (.int .i64 E.kind) := Joins.cell_of_block he1 1
  have HP := Lib.hid (show NamedPost ge gg cnt out grp E ns w (.returned (.int .i64 (m : Int))) W from by
    have : namedL out grp E ns = some (E, m, grp) := by
      unfold namedL
      rcases hk with h | h
      · rw [if_pos h, hm]
      · by_cases h1 : E.kind ≠ 1
        · rw [if_pos h1, hm]
        · rw [if_neg h1, if_pos h, hm]
    unfold NamedPost
    rw [this]
    exact ⟨rfl, he1, hg1.mono (Nat.le_succ _), hO.mono (fun _ _ h => h.elim)⟩)
  obtain ⟨x2, hx2⟩ : ∃ x, ns.getD 2 0 = x := ⟨_, rfl⟩
  rw [hx2] at c2 hk
  clear hb he hg hm hns hO hB hp he1 hg1 hW hg1' hx2
  by_cases q : E.kind = 1
  · have d1 : (E.kind != 1) = false := by rw [q]; rfl
    have d2 : decide ((x2 : Int) ≤ 1) = true := decide_eq_true (by rcases hk with h | h; exact absurd q h; omega)
    have d2' : decide (x2 ≤ 1) = true := decide_eq_true (by rcases hk with h | h; exact absurd q h; omega)
    clear q hk
    go_enter Tryz.func71, Tryz.ntmps71
    go_upto_region 1 with (fail)
    change Code.wp Tryz.prog _ _ _ (w.alloc (.cells (arrN ns) 57))
    rw [HW.out.1, HW.out.2]
    go_wp2_with fail
    go_ret
    exact HP.out
  · have d1 : (E.kind != 1) = true := by rw [bne_iff_ne]; exact q
    clear q hk
    go_enter Tryz.func71, Tryz.ntmps71
    go_upto_region 1 with (fail)
    change Code.wp Tryz.prog _ _ _ (w.alloc (.cells (arrN ns) 57))
    rw [HW.out.1, HW.out.2]
    go_wp2_with fail
    go_ret
    exact HP.out
set_option maxRecDepth 100000 in
set_option maxHeartbeats 4000000 in
theorem named_new {w : World} {g ge gk gg cnt gb at_ n c m cap : Nat} {A Ao : Option Addr} {E : Ent} {out : List Ent} {grp : List Grp} {ns : List Nat} (hb : w.heap[g]? = some (.cells (prow A n c at_ gb (.slice Ao m cap) gk gg) 71 (0, 0))) (he : w.heap[ge]? = some (.cells (erow E none 0) 47 (0, 0)))
    (hg : w.ownsMap Tryz.prog 115 (grpElem (H := Unit)) gg cnt (gmap grp)) (hm : out.length = m) (_hml : m ≤ 1000000) (hcn : cnt ≤ 1000000) (hns : NumOk ns) (hgo : GrpOk grp m) (hk : E.kind = 1) (h2 : ¬ ns.getD 2 0 ≤ 1) (hf : gfind grp (keyN ns) = none) :
    Calls Tryz.prog 71 #[.pointer (some ⟨g, 0, none⟩), .pointer (some ⟨ge, 0, none⟩), .agg (arrN ns)] w (NamedPost ge gg cnt out grp E ns w) := by
  have hO := (Only.refl (fun _ => False) w).alloc (.cells (arrN ns) 57)
  have hB := alloc_new w (.cells (arrN ns) 57)
  have hp := hO.keeps hb id
  have he1 := hO.keeps he id
  have hg1 := mapAny_only hg hO id
  obtain ⟨W, hW⟩ : ∃ W, w.alloc (.cells (arrN ns) 57) = W := ⟨_, rfl⟩
  obtain ⟨g1, hg1'⟩ : ∃ g1, w.heap.size = g1 := ⟨_, rfl⟩
  have HW := Lib.hid (And.intro hW hg1')
  rw [hW, hg1'] at hB
  rw [hW] at hp hO he1 hg1
  have HO := Lib.hid hO
  have HG := Lib.hid hg1
  have HP := Lib.hid hp
  have HE := Lib.hid he1
  have HB := Lib.hid hB
  have HNs := Lib.hid hns
  have HGo := Lib.hid hgo
  have HKey := Lib.hid (keyN_ok hns)
  have hcell : ∀ i, i < 13 → W.cell? ⟨g1, i, none⟩ = some (.int .i64 ((ns.getD i 0 : Nat) : Int)) := fun i hi => (Joins.cell_of_block hB i).trans (arrN_get (by rw [hns.1]; exact hi))
  have e1 : W.cell? ⟨ge, 1, none⟩ = some (.int .i64 E.kind) := Joins.cell_of_block he1 1
  have HNm := Lib.hid (show namedL out grp E ns = some (E, m, (keyN ns, m, decide (0 < ns.getD 6 0)) :: grp) by
    unfold namedL
    rw [if_neg (by rw [hk]; exact fun h => h rfl), if_neg h2, hf, hm])
  have HF := Lib.hid hf
  obtain ⟨x2, hx2⟩ : ∃ x, ns.getD 2 0 = x := ⟨_, rfl⟩
  obtain ⟨x0, hx0⟩ : ∃ x, ns.getD 0 0 = x := ⟨_, rfl⟩
  obtain ⟨x7, hx7⟩ : ∃ x, ns.getD 7 0 = x := ⟨_, rfl⟩
  obtain ⟨x8, hx8⟩ : ∃ x, ns.getD 8 0 = x := ⟨_, rfl⟩
  obtain ⟨x6, hx6⟩ : ∃ x, ns.getD 6 0 = x := ⟨_, rfl⟩
  have c2 := hcell 2 (by omega)
  have c0 := hcell 0 (by omega)
  have c7 := hcell 7 (by omega)
  have c8 := hcell 8 (by omega)
  rw [hx2] at c2 h2
  rw [hx0] at c0
  rw [hx7] at c7
  rw [hx8] at c8
  have HX := Lib.hid (And.intro hx0 (And.intro hx7 (And.intro hx8 hx6)))
  have d1 : (E.kind != 1) = false := by rw [hk]; rfl
  have d2 : decide ((x2 : Int) ≤ 1) = false := decide_eq_false (by omega)
  have d2' : decide (x2 ≤ 1) = false := decide_eq_false h2
  clear hb he hg hm hns hgo hO hB hp he1 hg1 hW hg1' hx2 hx0 hx7 hx8 hx6 hcell hk h2 hf
  go_enter Tryz.func71, Tryz.ntmps71
  go_upto_region 1 with (fail)
  change Code.wp Tryz.prog _ _ _ (w.alloc (.cells (arrN ns) 57))
  rw [HW.out.1, HW.out.2]
  go_upto_region 4 with (fail)
  have hV := alloc_new W (.cells #[.int .i64 (x0 : Int), .int .i64 (x7 : Int), .int .i64 (x8 : Int)] 115)
  have hOV := (Only.refl (fun _ => False) W).alloc (.cells #[.int .i64 (x0 : Int), .int .i64 (x7 : Int), .int .i64 (x8 : Int)] 115)
  have HOW := Lib.hid (HO.out.trans' hOV)
  have HPV := Lib.hid (hOV.keeps HP.out id)
  have HBV := Lib.hid (hOV.keeps HB.out id)
  have HEV := Lib.hid (hOV.keeps HE.out id)
  have HGV := Lib.hid (mapAny_only HG.out hOV id)
  obtain ⟨V, hVd⟩ : ∃ V, W.alloc (.cells #[.int .i64 (x0 : Int), .int .i64 (x7 : Int), .int .i64 (x8 : Int)] 115) = V := ⟨_, rfl⟩
  obtain ⟨g2, hg2⟩ : ∃ g2, W.heap.size = g2 := ⟨_, rfl⟩
  rw [hVd, hg2] at hV
  rw [hVd] at HOW HPV HBV HEV HGV ⊢
  rw [hg2]
  have HKV := Lib.hid hV
  have HKn := Lib.hid (show keyV (keyN ns) = .agg #[.int .i64 (x0 : Int), .int .i64 (x7 : Int), .int .i64 (x8 : Int)] by unfold keyV keyN; rw [HX.out.1, HX.out.2.1, HX.out.2.2.1])
  have hk5 : ∀ u, Only (fun _ => False) V u → u.cell? ⟨g, 5, none⟩ = some (.map (some gg)) := fun u h => h.cell (Joins.cell_of_block HPV.out 5) id
  have hld : ∀ u, Only (fun _ => False) V u → (loadVar 115 ⟨g2, 0, none⟩).run Tryz.prog u = .ok (.agg #[.int .i64 (x0 : Int), .int .i64 (x7 : Int), .int .i64 (x8 : Int)]) u := fun u h => load115 rfl (h.keeps HKV.out id)
  have hlk : ∀ u, Only (fun _ => False) V u → (Instr.lookup 69 (.map (some gg)) (.agg #[.int .i64 (x0 : Int), .int .i64 (x7 : Int), .int .i64 (x8 : Int)]) true).run Tryz.prog u = .ok (.tuple #[.agg #[.int .i64 0, .bool false], .bool false]) u := fun u h => by
    have h := look_none (mapAny_only HGV.out h id) HKey.out HGo.out.key HF.out
    rw [HKn.out] at h
    exact h
  clear hV hOV hVd hg2 HO HP HB HE HG c0 c2 c7 c8 e1 HW
  clear W
  obtain ⟨g3, hg3⟩ : ∃ g3, V.heap.size = g3 := ⟨_, rfl⟩
  have HG3 := Lib.hid hg3
  go_cut [8, 9] from 32 to 40 (fun v8 v9 u => v8 = .pointer (some ⟨g3, 0, none⟩) ∧ v9 = .bool false ∧ Hid (Only (fun _ => False) V u))
  case first =>
    go_region_held3 (fun u => Only (fun _ => False) V u) (((repeat (first | refine Only.drew ?_ | refine Only.alloc ?_ _)); first | assumption | exact Only.refl _ _)) (fail)
    all_goals
      go_wp2_with fail
      all_goals
        go_meet
        case rel => exact ⟨rfl, rfl, Lib.hid (((Only.refl (fun _ => False) V).alloc _).drew)⟩
  case rest =>
    obtain ⟨rfl, rfl, HC⟩ := hcut
    have hl5 : ∀ x : Later wc, x.w.cell? ⟨g, 5, none⟩ = some (.map (some gg)) := fun x => (HC.out.trans' x.h).cell (Joins.cell_of_block HPV.out 5) id
    have hl3 : ∀ x : Later wc, x.w.cell? ⟨g, 3, none⟩ = some (.slice Ao m cap) := fun x => (HC.out.trans' x.h).cell (Joins.cell_of_block HPV.out 3) id
    have hl6 : ∀ x : Later wc, x.w.cell? ⟨g1, 6, none⟩ = some (.int .i64 (x6 : Int)) := fun x => (HC.out.trans' x.h).cell ((Joins.cell_of_block HBV.out 6).trans (by rw [arrN_get (by rw [HNs.out.1]; decide), HX.out.2.2.2])) id
    have hlk : ∀ x : Later wc, (loadVar 115 ⟨g2, 0, none⟩).run Tryz.prog x.w = .ok (.agg #[.int .i64 (x0 : Int), .int .i64 (x7 : Int), .int .i64 (x8 : Int)]) x.w := fun x => load115 rfl ((HC.out.trans' x.h).keeps HKV.out id)
    clear hk5 hld hg3
    go_upto_region 6 with (fail)
    refine wp_region_head_later 14 (by kernel_rfl) (by kernel_rfl) ?_
    simp only [List.take_succ_cons, List.take_zero, List.drop_succ_cons, List.drop_zero]
    repeat (go_big_quiet_step (fail))
    refine wpQuiet_nil ?_
    rintro u ⟨x, hx⟩
    have hu := x.h
    rw [← hx] at hu
    clear hx hl5 hl3 hl6 hlk
    have HPu := Lib.hid ((HC.out.trans' hu).keeps HPV.out id)
    have HGu := Lib.hid (mapAny_only HGV.out (HC.out.trans' hu) id)
    have HU := Lib.hid (HC.out.trans' hu)
    have HCn := Lib.hid hcn
    have HGl := Lib.hid (show g ≠ gg from fun e => by
      obtain ⟨es, ck, h9, _⟩ := HGu.out
      have := HPu.out
      rw [e, h9] at this; cases this)
    have HEl := Lib.hid (show ge ≠ gg from fun e => by
      obtain ⟨es, ck, h9, _⟩ := HGu.out
      have := HU.out.keeps HEV.out id
      rw [e, h9] at this; cases this)
    clear hu HC hcn
    go_upto_region 7 with (first
      | (at_mapUpdate
         refine wpList_mapUpdate_own _ rfl _ _ _ 69 rfl 115 117 keyed115 Tryz.underlying69 _ gg cnt _ rfl HGu.out (by have := HCn.out; unfold maxLen; omega) _ _ _ rfl rfl (by rw [← HKn.out]; exact keyOf3 HKey.out) _ [] (grpElem_mk2 _ _) ?_
         intro w5 hown5 hgrow5
         have HM5 := Lib.hid hown5
         have HL5 := Lib.hid (only_grown hgrow5)
         clear hown5 hgrow5))
    have k3 : w5.cell? ⟨g, 3, none⟩ = some (.slice Ao m cap) := HL5.out.cell (Joins.cell_of_block HPu.out 3) HGl.out
    have HFin := Lib.hid (show NamedPost ge gg cnt out grp E ns w (.returned (.int .i64 (m : Int))) w5 from by
      unfold NamedPost
      rw [HNm.out]
      refine ⟨rfl, HL5.out.keeps (HU.out.keeps HEV.out id) HEl.out, ?_, (HOW.out.trans' HU.out).mono (fun _ _ h => h.elim) |>.trans HL5.out (fun k hk => Or.inl (Or.inr hk))⟩
      have := HM5.out
      rw [HX.out.2.2.2]
      exact this)
    go_wp2_with fail
    go_ret
    exact HFin.out
set_option maxRecDepth 100000 in
set_option maxHeartbeats 4000000 in
theorem named_old {w : World} {g ge gk gg cnt gb at_ n c m cap kn f : Nat} {by_ : Bool} {M : Nat → Option Addr × Nat} {A Ao : Option Addr} {E : Ent} {out : List Ent} {grp : List Grp} {ns : List Nat} (hb : w.heap[g]? = some (.cells (prow A n c at_ gb (.slice Ao m cap) gk gg) 71 (0, 0))) (he : w.heap[ge]? = some (.cells (erow E none 0) 47 (0, 0)))
    (hg : w.ownsMap Tryz.prog 115 (grpElem (H := Unit)) gg cnt (gmap grp)) (hki : w.ownsMap Tryz.prog 9 (plainElem Tryz.prog 3) gk kn (kmap out)) (hR : RdE w Ao out M) (hEs : ∀ E ∈ out, E.path.length ≤ 500000) (hfar : ∀ ad, Ao = some ad → ad.block ≠ ge) (hne : gg ≠ gk) (hm : out.length = m) (_hml : m ≤ 1000000) (hcn : cnt ≤ 1000000) (hns : NumOk ns) (hgo : GrpOk grp m) (hk : E.kind = 1) (h2 : ¬ ns.getD 2 0 ≤ 1) (hf : gfind grp (keyN ns) = some (f, by_)) :
    Calls Tryz.prog 71 #[.pointer (some ⟨g, 0, none⟩), .pointer (some ⟨ge, 0, none⟩), .agg (arrN ns)] w (NamedPost ge gg cnt out grp E ns w) := by
  have hO := (Only.refl (fun _ => False) w).alloc (.cells (arrN ns) 57)
  have hB := alloc_new w (.cells (arrN ns) 57)
  have hp := hO.keeps hb id
  have he1 := hO.keeps he id
  have hg1 := mapAny_only hg hO id
  obtain ⟨W, hW⟩ : ∃ W, w.alloc (.cells (arrN ns) 57) = W := ⟨_, rfl⟩
  obtain ⟨g1, hg1'⟩ : ∃ g1, w.heap.size = g1 := ⟨_, rfl⟩
  have HW := Lib.hid (And.intro hW hg1')
  rw [hW, hg1'] at hB
  rw [hW] at hp hO he1 hg1
  have HO := Lib.hid hO
  have HG := Lib.hid hg1
  have HP := Lib.hid hp
  have HE := Lib.hid he1
  have HB := Lib.hid hB
  have HNs := Lib.hid hns
  have HGo := Lib.hid hgo
  have HKey := Lib.hid (keyN_ok hns)
  have hcell : ∀ i, i < 13 → W.cell? ⟨g1, i, none⟩ = some (.int .i64 ((ns.getD i 0 : Nat) : Int)) := fun i hi => (Joins.cell_of_block hB i).trans (arrN_get (by rw [hns.1]; exact hi))
  have e1 : W.cell? ⟨ge, 1, none⟩ = some (.int .i64 E.kind) := Joins.cell_of_block he1 1
  have hfm : f < m := (hgo _ (gfind_mem hf)).2
  obtain ⟨P, hP⟩ : ∃ P, (out.getD f e0).path = P := ⟨_, rfl⟩
  obtain ⟨lk, hlk0⟩ : ∃ lk, lastKind out P = lk := ⟨_, rfl⟩
  have HNm := Lib.hid (show namedL out grp E ns = if lk ≠ 1 then none else if ¬ ns.getD 6 0 = 0 ∧ by_ = true then none else some ({ E with kind := 4, target := P }, f, (keyN ns, f, by_ || decide (0 < ns.getD 6 0)) :: grp) by
    unfold namedL
    rw [if_neg (by rw [hk]; exact fun h => h rfl), if_neg h2, hf]
    dsimp only
    rw [hP, hlk0])
  have hEf : out[f]? = some (out.getD f e0) := by rw [List.getD_eq_getElem?_getD, List.getElem?_eq_getElem (by omega)]; rfl
  obtain ⟨_, ado, hAo, hrow⟩ := hR f _ hEf
  have HPl := Lib.hid (show P.length ≤ 500000 by rw [← hP]; exact hEs _ (List.mem_of_getElem? hEf))
  subst hAo
  have hpc : W.cell? (ado.add (f * 8)) = some (.string (B P)) := by
    have := hrow 0 (.string (B P)) (by rw [← hP]; rfl)
    rw [Nat.add_zero] at this
    exact hO.cell this id
  have HPC := Lib.hid hpc
  have HFar := Lib.hid (show (ado.add (f * 8)).block ≠ ge by rw [block_add]; exact hfar _ rfl)
  have HLk := Lib.hid (show (kmap out).atKey (.string P) (.lit (.int .i64 0)) = .lit (.int .i64 lk) by rw [← hlk0]; exact kmap_at out P)
  have HKi := Lib.hid (mapAny_only hki hO id)
  have HFm := Lib.hid hfm
  have HNe := Lib.hid hne
  have HF := Lib.hid hf
  obtain ⟨x2, hx2⟩ : ∃ x, ns.getD 2 0 = x := ⟨_, rfl⟩
  obtain ⟨x0, hx0⟩ : ∃ x, ns.getD 0 0 = x := ⟨_, rfl⟩
  obtain ⟨x7, hx7⟩ : ∃ x, ns.getD 7 0 = x := ⟨_, rfl⟩
  obtain ⟨x8, hx8⟩ : ∃ x, ns.getD 8 0 = x := ⟨_, rfl⟩
  obtain ⟨x6, hx6⟩ : ∃ x, ns.getD 6 0 = x := ⟨_, rfl⟩
  have c2 := hcell 2 (by omega)
  have c0 := hcell 0 (by omega)
  have c7 := hcell 7 (by omega)
  have c8 := hcell 8 (by omega)
  rw [hx2] at c2 h2
  rw [hx0] at c0
  rw [hx7] at c7
  rw [hx8] at c8
  have HX := Lib.hid (And.intro hx0 (And.intro hx7 (And.intro hx8 hx6)))
  have d1 : (E.kind != 1) = false := by rw [hk]; rfl
  have d2 : decide ((x2 : Int) ≤ 1) = false := decide_eq_false (by omega)
  have d2' : decide (x2 ≤ 1) = false := decide_eq_false h2
  clear hne hR hEs hfar hki hfm hP hlk0 hEf hrow hpc hb he hg hm hns hgo hO hB hp he1 hg1 hW hg1' hx2 hx0 hx7 hx8 hx6 hcell hk h2 hf
  go_enter Tryz.func71, Tryz.ntmps71
  go_upto_region 1 with (fail)
  change Code.wp Tryz.prog _ _ _ (w.alloc (.cells (arrN ns) 57))
  rw [HW.out.1, HW.out.2]
  go_upto_region 4 with (fail)
  have hV := alloc_new W (.cells #[.int .i64 (x0 : Int), .int .i64 (x7 : Int), .int .i64 (x8 : Int)] 115)
  have hOV := (Only.refl (fun _ => False) W).alloc (.cells #[.int .i64 (x0 : Int), .int .i64 (x7 : Int), .int .i64 (x8 : Int)] 115)
  have hOVx := Lib.hid hOV
  have HOW := Lib.hid (HO.out.trans' hOV)
  have HPV := Lib.hid (hOV.keeps HP.out id)
  have HBV := Lib.hid (hOV.keeps HB.out id)
  have HEV := Lib.hid (hOV.keeps HE.out id)
  have HGV := Lib.hid (mapAny_only HG.out hOV id)
  obtain ⟨V, hVd⟩ : ∃ V, W.alloc (.cells #[.int .i64 (x0 : Int), .int .i64 (x7 : Int), .int .i64 (x8 : Int)] 115) = V := ⟨_, rfl⟩
  obtain ⟨g2, hg2⟩ : ∃ g2, W.heap.size = g2 := ⟨_, rfl⟩
  rw [hVd, hg2] at hV
  rw [hVd] at hOVx HOW HPV HBV HEV HGV ⊢
  rw [hg2]
  have HKV := Lib.hid hV
  have HKn := Lib.hid (show keyV (keyN ns) = .agg #[.int .i64 (x0 : Int), .int .i64 (x7 : Int), .int .i64 (x8 : Int)] by unfold keyV keyN; rw [HX.out.1, HX.out.2.1, HX.out.2.2.1])
  have hk5 : ∀ u, Only (fun _ => False) V u → u.cell? ⟨g, 5, none⟩ = some (.map (some gg)) := fun u h => h.cell (Joins.cell_of_block HPV.out 5) id
  have hld : ∀ u, Only (fun _ => False) V u → (loadVar 115 ⟨g2, 0, none⟩).run Tryz.prog u = .ok (.agg #[.int .i64 (x0 : Int), .int .i64 (x7 : Int), .int .i64 (x8 : Int)]) u := fun u h => load115 rfl (h.keeps HKV.out id)
  have hlk : ∀ u, Only (fun _ => False) V u → (Instr.lookup 69 (.map (some gg)) (.agg #[.int .i64 (x0 : Int), .int .i64 (x7 : Int), .int .i64 (x8 : Int)]) true).run Tryz.prog u = .ok (.tuple #[.agg #[.int .i64 (f : Int), .bool by_], .bool true]) u := fun u h => by
    have h := look_some (mapAny_only HGV.out h id) HKey.out HGo.out.key HF.out
    rw [HKn.out] at h
    exact h
  clear hV hOV hVd hg2 HO HP HB HE HG c0 c2 c7 c8 e1 HW
  obtain ⟨g3, hg3⟩ : ∃ g3, V.heap.size = g3 := ⟨_, rfl⟩
  have HG3 := Lib.hid hg3
  go_cut [8, 9] from 32 to 40 (fun v8 v9 u => v8 = .pointer (some ⟨g3, 0, none⟩) ∧ v9 = .bool true ∧ Hid (u.heap[g3]? = some (.cells #[.int .i64 (f : Int), .bool by_] 117 (0, 0))) ∧ Hid (Only (fun _ => False) V u))
  case first =>
    go_region_held3 (fun u => Only (fun _ => False) V u) (((repeat (first | refine Only.drew ?_ | refine Only.alloc ?_ _)); first | assumption | exact Only.refl _ _)) (fail)
    all_goals
      go_wp2_with fail
      all_goals
        go_meet
        case rel => exact ⟨rfl, rfl, Lib.hid (by rw [← HG3.out]; exact alloc_new V _), Lib.hid (((Only.refl (fun _ => False) V).alloc _).drew)⟩
  case rest =>
    obtain ⟨rfl, rfl, HC3, HC⟩ := hcut
    have HKiV := Lib.hid (mapAny_only HKi.out (hOVx.out.trans' HC.out) id)
    have hl3 : wc.cell? ⟨g, 3, none⟩ = some (.slice (some ado) m cap) := HC.out.cell (Joins.cell_of_block HPV.out 3) id
    have hlf : wc.cell? ⟨g3, 0, none⟩ = some (.int .i64 (f : Int)) := Joins.cell_of_block HC3.out 0
    have hlp : wc.cell? (ado.add (f * 8)) = some (.string (B P)) := (hOVx.out.trans' HC.out).cell HPC.out id
    have b1 : f < m := HFm.out
    have b2 : (f : Int) < (m : Int) := by omega
    have q1 := HC.out.keeps HEV.out id
    have f1 := frozen_of_row wc ge 1 _ _ q1
    have f6 := frozen_of_row wc ge 6 _ _ q1
    have o1 : wc.cell? ⟨ge, 1, none⟩ = some (.int .i64 E.kind) := Joins.cell_of_block q1 1
    have o6 : wc.cell? ⟨ge, 6, none⟩ = some (.string (B E.target)) := Joins.cell_of_block q1 6
    have HQ1 := Lib.hid q1
    obtain ⟨SP, hSP⟩ : ∃ SP, B P = SP := ⟨_, rfl⟩
    have HSP := Lib.hid hSP
    rw [hSP] at hlp
    clear hk5 hld hg3 q1 hSP
    go_upto_region 8 with (fail)
    go_region
    have q8 := heap_setCell_same (wc.setCell ⟨ge, 1, none⟩ (.int .i64 4)) ge 6 _ _ (.string SP) (heap_setCell_same wc ge 1 _ _ (.int .i64 4) HQ1.out)
    have HE8 := Lib.hid (show (((wc.setCell ⟨ge, 1, none⟩ (.int .i64 4)).setCell ⟨ge, 6, none⟩ (.string SP)).drew).heap[ge]? = some (.cells (erow { E with kind := 4, target := P } none 0) 47 (0, 0)) from by
      refine Eq.trans q8 ?_
      rw [← HSP.out]; rfl)
    have HO8 := Lib.hid (show Only (fun b => b = ge) wc (((wc.setCell ⟨ge, 1, none⟩ (.int .i64 4)).setCell ⟨ge, 6, none⟩ (.string SP)).drew) from ((only_put wc ge 1 _).trans' (only_put _ ge 6 _)).drew)
    obtain ⟨w8, hw8⟩ : ∃ w8, ((wc.setCell ⟨ge, 1, none⟩ (.int .i64 4)).setCell ⟨ge, 6, none⟩ (.string SP)).drew = w8 := ⟨_, rfl⟩
    rw [hw8] at HE8 HO8 ⊢
    have HGl := Lib.hid (show g ≠ gg ∧ ge ≠ gg ∧ gk ≠ ge ∧ g ≠ ge ∧ gg ≠ gk ∧ g1 ≠ ge ∧ g2 ≠ ge ∧ g3 ≠ ge ∧ g1 ≠ gg ∧ g2 ≠ gg ∧ g3 ≠ gg from by
      obtain ⟨es, ck, h9, _⟩ := HGV.out
      obtain ⟨es', ck', h9', hF', _⟩ := HKi.out
      have p1 := HPV.out
      have p2 := HEV.out
      have p3 := HBV.out
      have p4 := HKV.out
      have h3 := HG3.out
      have l1 := Only.heap_lt h9
      have l2 := Only.heap_lt p2
      have p5 := hOVx.out.keeps h9' id
      have l5 := Only.heap_lt p5
      refine ⟨fun e => ?_, fun e => ?_, fun e => ?_, fun e => ?_, HNe.out, fun e => ?_, fun e => ?_, by omega, fun e => ?_, fun e => ?_, by omega⟩
      · rw [e, h9] at p1; cases p1
      · rw [e, h9] at p2; cases p2
      · rw [e, p2] at p5; cases p5
      · rw [e, p2] at p1; cases p1
      · rw [e, p2] at p3; injection p3 with p3; injection p3 with _ p3; exact absurd p3 (by decide)
      · rw [e, p2] at p4; cases p4
      · rw [e, h9] at p3; cases p3
      · rw [e, h9] at p4; cases p4)
    have HGn := Lib.hid (show g ≠ g3 ∧ g2 ≠ g3 ∧ gg ≠ g3 ∧ ge ≠ g3 ∧ w.heap.size ≤ g3 from by
      obtain ⟨es, ck, h9, _⟩ := HGV.out
      have h3 := HG3.out
      have l1 := Only.heap_lt h9
      have l2 := Only.heap_lt HEV.out
      have l3 := Only.heap_lt HPV.out
      have l4 := Only.heap_lt HKV.out
      have l5 := HOW.out.size
      omega)
    have HU8 := Lib.hid (show Only (fun b => b = ge ∨ b = gg) w w8 from ((HOW.out.trans' HC.out).mono (fun _ _ h => h.elim)).trans HO8.out (fun k hk => Or.inl (Or.inl hk)))
    have HP8 := Lib.hid (HO8.out.keeps (HC.out.keeps HPV.out id) HGl.out.2.2.2.1)
    have HG8 := Lib.hid (mapAny_only (mapAny_only HGV.out HC.out id) HO8.out (Ne.symm HGl.out.2.1))
    have HK8 := Lib.hid (mapAny_only HKiV.out HO8.out HGl.out.2.2.1)
    have HB8 := Lib.hid (HO8.out.keeps (HC.out.keeps HBV.out id) HGl.out.2.2.2.2.2.1)
    have HKy8 := Lib.hid (HO8.out.keeps (HC.out.keeps HKV.out id) HGl.out.2.2.2.2.2.2.1)
    have HC8 := Lib.hid (HO8.out.keeps HC3.out HGl.out.2.2.2.2.2.2.2.1)
    clear q8 hw8 HQ1 o1 o6 f1 f6 hl3 hlf hlp HO8 HC HC3 HKiV HPV HEV HBV HKV HGV hlk
    have hl4 : ∀ x : Later w8, x.w.cell? ⟨g, 4, none⟩ = some (.map (some gk)) := fun x => x.h.cell (Joins.cell_of_block HP8.out 4) id
    have hle : ∀ x : Later w8, x.w.cell? ⟨ge, 6, none⟩ = some (.string SP) := fun x => x.h.cell ((Joins.cell_of_block HE8.out 6).trans (by rw [← HSP.out]; rfl)) id
    have hlk : ∀ x : Later w8, (Instr.lookup 61 (.map (some gk)) (.string SP) false).run Tryz.prog x.w = .ok (.int .i64 lk) x.w := fun x => by
      obtain ⟨cc, hr, hat, _⟩ := (mapAny_only HK8.out x.h id).lookup_int keyed9 Tryz.underlying61 Tryz.underlying3 (zero3 _) (key_B HPl.out)
      rw [HLk.out] at hat
      injection hat with h8
      injection h8 with _ h8
      rw [← HSP.out, hr, ← h8]
    by_cases ql : lk = 1
    case neg =>
      have dl : (lk == 1) = false := beq_eq_false_iff_ne.mpr ql
      have HFin := Lib.hid (fun u (h : Only (fun _ => False) w8 u) => show NamedPost ge gg cnt out grp E ns w (.panicked (faultC 2)) u from by
        unfold NamedPost
        rw [HNm.out, if_pos ql]
        exact ⟨rfl, HU8.out.trans h (fun _ h => h.elim)⟩)
      clear ql
      go_upto_region 9 with (fail)
      refine wp_region_head_later 10 (by kernel_rfl) (by kernel_rfl) ?_
      simp only [List.take_succ_cons, List.take_zero, List.drop_succ_cons, List.drop_zero]
      repeat (go_big_quiet_step (fail))
      refine wpQuiet_nil ?_
      rintro u ⟨x, hx⟩
      have hu := x.h
      rw [← hx] at hu
      clear hx hl4 hle hlk
      go_wp2_with (go_at_call 64; refine (must_f ?hc _).mono ?_; case hc => first | rfl | assumption
                   rintro e w9 ⟨rfl, h9⟩; obtain rfl := h9)
      exact ⟨rfl, HFin.out _ hu⟩
    have dl : (lk == 1) = true := beq_iff_eq.mpr ql
    have HN2 := Lib.hid (HNm.out.trans (if_neg (fun h => h ql)))
    clear ql
    go_upto_region 9 with (fail)
    refine wp_region_head_later 10 (by kernel_rfl) (by kernel_rfl) ?_
    simp only [List.take_succ_cons, List.take_zero, List.drop_succ_cons, List.drop_zero]
    repeat (go_big_quiet_step (fail))
    refine wpQuiet_nil ?_
    rintro u ⟨x, hx⟩
    have hu := x.h
    rw [← hx] at hu
    clear hx hl4 hle hlk
    go_upto_region 10 with (go_at_call 64; refine (must_t ?hc _).mono ?_; case hc => first | rfl | assumption
                            rintro e w9 ⟨rfl, h9⟩; obtain rfl := h9)
    have c6 : u.cell? ⟨g1, 6, none⟩ = some (.int .i64 (x6 : Int)) := hu.cell ((Joins.cell_of_block HB8.out 6).trans (by rw [arrN_get (by rw [HNs.out.1]; decide), HX.out.2.2.2])) id
    have q3 := hu.keeps HC8.out id
    have t1 : u.cell? ⟨g3, 1, none⟩ = some (.bool by_) := Joins.cell_of_block q3 1
    have t0 : u.cell? ⟨g3, 0, none⟩ = some (.int .i64 (f : Int)) := Joins.cell_of_block q3 0
    have z1 := frozen_of_row u g3 1 _ _ q3
    have HQ3 := Lib.hid q3
    have HUu := Lib.hid (HU8.out.trans hu (fun _ h => h.elim))
    have HPu := Lib.hid (hu.keeps HP8.out id)
    have HGu := Lib.hid (mapAny_only HG8.out hu id)
    have HEu := Lib.hid (hu.keeps HE8.out id)
    have HKyu := Lib.hid (hu.keeps HKy8.out id)
    clear q3 hu
    clear HP8 HG8 HK8 HE8 HB8 HKy8 HC8
    have HFin := Lib.hid (fun (nb : Bool) (hnb : nb = (by_ || decide (0 < x6))) (hc : ¬ (¬ x6 = 0 ∧ by_ = true)) v (hm : v.ownsMap Tryz.prog 115 (grpElem (H := Unit)) gg (cnt + 1) ((gmap grp).put (key3 (keyN ns)) (.agg [.lit (.int .i64 (f : Int)), .lit (.bool nb)]))) (ho : Only (fun b => b = gg ∨ b = g3) u v) => show NamedPost ge gg cnt out grp E ns w (.returned (.int .i64 (f : Int))) v from by
      unfold NamedPost
      rw [HN2.out, if_neg (by rw [HX.out.2.2.2]; exact hc)]
      refine ⟨rfl, ho.keeps HEu.out (fun e => e.elim HGl.out.2.1 HGn.out.2.2.2.1), ?_, HUu.out.trans ho (fun k hk => hk.elim (fun h => Or.inl (Or.inr h)) (fun h => Or.inr (by rw [h]; exact HGn.out.2.2.2.2)))⟩
      rw [hnb] at hm
      rw [HX.out.2.2.2]
      exact hm)
    have HBadF := Lib.hid (fun (hc : ¬ x6 = 0 ∧ by_ = true) => show NamedPost ge gg cnt out grp E ns w (.panicked (faultC 2)) u from by
      unfold NamedPost
      rw [HN2.out, if_pos (by rw [HX.out.2.2.2]; exact hc)]
      exact ⟨rfl, HUu.out⟩)
    have HCn := Lib.hid hcn
    clear hcn
    cases by_ with
    | true =>
      by_cases k6 : x6 = 0
      · have d6 := (show ((x6 : Int) == 0) = true from by rw [beq_iff_eq]; omega)
        have HK6 := Lib.hid k6
        clear k6
        go_upto_region 12 with (go_at_call 64; refine (must_t ?hc _).mono ?_; case hc => first | rfl | assumption
                                rintro e w9 ⟨rfl, h9⟩; obtain rfl := h9)
        have q3 := heap_setCell_same u g3 1 _ _ (.bool true) HQ3.out
        have hOs := only_put u g3 1 (.bool true)
        obtain ⟨w9, hw9⟩ : ∃ w9, u.setCell ⟨g3, 1, none⟩ (.bool true) = w9 := ⟨_, rfl⟩
        rw [hw9] at q3 hOs ⊢
        have HQ9 := Lib.hid q3
        have HO9 := Lib.hid hOs
        have hl5 : ∀ x : Later w9, x.w.cell? ⟨g, 5, none⟩ = some (.map (some gg)) := fun x => x.h.cell (hOs.cell (Joins.cell_of_block HPu.out 5) HGn.out.1) id
        have hld : ∀ x : Later w9, (loadVar 115 ⟨g2, 0, none⟩).run Tryz.prog x.w = .ok (.agg #[.int .i64 (x0 : Int), .int .i64 (x7 : Int), .int .i64 (x8 : Int)]) x.w := fun x => load115 rfl (x.h.keeps (hOs.keeps HKyu.out HGn.out.2.1) id)
        have hl7 : ∀ x : Later w9, (loadVar 117 ⟨g3, 0, none⟩).run Tryz.prog x.w = .ok (.agg #[.int .i64 (f : Int), .bool true]) x.w := fun x => load117 rfl (x.h.keeps HQ9.out id)
        clear hw9 q3 hOs c6 t1 z1 t0
        refine wp_region_head_later 6 (by kernel_rfl) (by kernel_rfl) ?_
        simp only [List.take_succ_cons, List.take_zero, List.drop_succ_cons, List.drop_zero]
        repeat (go_big_quiet_step (fail))
        refine wpQuiet_nil ?_
        rintro v ⟨x, hx⟩
        have hv := x.h
        rw [← hx] at hv
        clear hx hl5 hld hl7
        have HGv := Lib.hid (mapAny_only (mapAny_only HGu.out HO9.out HGn.out.2.2.1) hv id)
        go_upto_region 13 with (first
          | (at_mapUpdate
             refine wpList_mapUpdate_own _ rfl _ _ _ 69 rfl 115 117 keyed115 Tryz.underlying69 _ gg cnt _ rfl HGv.out (by have := HCn.out; unfold maxLen; omega) _ _ _ rfl rfl (by rw [← HKn.out]; exact keyOf3 HKey.out) _ [] (grpElem_mk2 _ _) ?_
             intro w5 hown5 hgrow5
             have HM5 := Lib.hid hown5
             have HL5 := Lib.hid (only_grown hgrow5)
             clear hown5 hgrow5))
        have t0 : w5.cell? ⟨g3, 0, none⟩ = some (.int .i64 (f : Int)) := HL5.out.cell (hv.cell (Joins.cell_of_block HQ9.out 0) id) HGn.out.2.2.1.symm
        have HF9 := Lib.hid (HFin.out true (by first | rfl | exact d7'.symm) (by rintro ⟨h1, h2⟩; first | exact h1 HK6.out | cases h2) w5 HM5.out (((HO9.out.mono (fun _ _ h => Or.inr h)).trans hv (fun _ h => h.elim)).trans HL5.out (fun k hk => Or.inl (Or.inl hk))))
        go_wp2_with fail
        go_ret
        exact HF9.out
      · have d6 := (show ((x6 : Int) == 0) = false from by rw [beq_eq_false_iff_ne]; omega)
        have HP := Lib.hid (HBadF.out ⟨k6, rfl⟩)
        clear k6
        go_wp2_with (go_at_call 64; refine (must_f ?hc _).mono ?_; case hc => first | rfl | assumption
                     rintro e w9 ⟨rfl, h9⟩; obtain rfl := h9)
        exact ⟨rfl, HP.out⟩
    | false =>
      by_cases k6 : x6 = 0
      · have d6 := (show ((x6 : Int) == 0) = true from by rw [beq_iff_eq]; omega)
        have d7 := (show decide ((x6 : Int) > 0) = false from decide_eq_false (by omega))
        have d7' := (show decide (0 < x6) = false from decide_eq_false (by omega))
        have HK6 := Lib.hid k6
        clear k6
        go_upto_region 12 with (go_at_call 64; refine (must_t ?hc _).mono ?_; case hc => first | rfl | assumption
                                rintro e w9 ⟨rfl, h9⟩; obtain rfl := h9)
        have q3 := heap_setCell_same u g3 1 _ _ (.bool false) HQ3.out
        have hOs := only_put u g3 1 (.bool false)
        obtain ⟨w9, hw9⟩ : ∃ w9, u.setCell ⟨g3, 1, none⟩ (.bool false) = w9 := ⟨_, rfl⟩
        rw [hw9] at q3 hOs ⊢
        have HQ9 := Lib.hid q3
        have HO9 := Lib.hid hOs
        have hl5 : ∀ x : Later w9, x.w.cell? ⟨g, 5, none⟩ = some (.map (some gg)) := fun x => x.h.cell (hOs.cell (Joins.cell_of_block HPu.out 5) HGn.out.1) id
        have hld : ∀ x : Later w9, (loadVar 115 ⟨g2, 0, none⟩).run Tryz.prog x.w = .ok (.agg #[.int .i64 (x0 : Int), .int .i64 (x7 : Int), .int .i64 (x8 : Int)]) x.w := fun x => load115 rfl (x.h.keeps (hOs.keeps HKyu.out HGn.out.2.1) id)
        have hl7 : ∀ x : Later w9, (loadVar 117 ⟨g3, 0, none⟩).run Tryz.prog x.w = .ok (.agg #[.int .i64 (f : Int), .bool false]) x.w := fun x => load117 rfl (x.h.keeps HQ9.out id)
        clear hw9 q3 hOs c6 t1 z1 t0
        refine wp_region_head_later 6 (by kernel_rfl) (by kernel_rfl) ?_
        simp only [List.take_succ_cons, List.take_zero, List.drop_succ_cons, List.drop_zero]
        repeat (go_big_quiet_step (fail))
        refine wpQuiet_nil ?_
        rintro v ⟨x, hx⟩
        have hv := x.h
        rw [← hx] at hv
        clear hx hl5 hld hl7
        have HGv := Lib.hid (mapAny_only (mapAny_only HGu.out HO9.out HGn.out.2.2.1) hv id)
        go_upto_region 13 with (first
          | (at_mapUpdate
             refine wpList_mapUpdate_own _ rfl _ _ _ 69 rfl 115 117 keyed115 Tryz.underlying69 _ gg cnt _ rfl HGv.out (by have := HCn.out; unfold maxLen; omega) _ _ _ rfl rfl (by rw [← HKn.out]; exact keyOf3 HKey.out) _ [] (grpElem_mk2 _ _) ?_
             intro w5 hown5 hgrow5
             have HM5 := Lib.hid hown5
             have HL5 := Lib.hid (only_grown hgrow5)
             clear hown5 hgrow5))
        have t0 : w5.cell? ⟨g3, 0, none⟩ = some (.int .i64 (f : Int)) := HL5.out.cell (hv.cell (Joins.cell_of_block HQ9.out 0) id) HGn.out.2.2.1.symm
        have HF9 := Lib.hid (HFin.out false (by first | rfl | exact d7'.symm) (by rintro ⟨h1, h2⟩; first | exact h1 HK6.out | cases h2) w5 HM5.out (((HO9.out.mono (fun _ _ h => Or.inr h)).trans hv (fun _ h => h.elim)).trans HL5.out (fun k hk => Or.inl (Or.inl hk))))
        go_wp2_with fail
        go_ret
        exact HF9.out
      · have d6 := (show ((x6 : Int) == 0) = false from by rw [beq_eq_false_iff_ne]; omega)
        have d7 := (show decide ((x6 : Int) > 0) = true from decide_eq_true (by omega))
        have d7' := (show decide (0 < x6) = true from decide_eq_true (by omega))
        have HK6 := Lib.hid k6
        clear k6
        go_upto_region 12 with (go_at_call 64; refine (must_t ?hc _).mono ?_; case hc => first | rfl | assumption
                                rintro e w9 ⟨rfl, h9⟩; obtain rfl := h9)
        have q3 := heap_setCell_same u g3 1 _ _ (.bool true) HQ3.out
        have hOs := only_put u g3 1 (.bool true)
        obtain ⟨w9, hw9⟩ : ∃ w9, u.setCell ⟨g3, 1, none⟩ (.bool true) = w9 := ⟨_, rfl⟩
        rw [hw9] at q3 hOs ⊢
        have HQ9 := Lib.hid q3
        have HO9 := Lib.hid hOs
        have hl5 : ∀ x : Later w9, x.w.cell? ⟨g, 5, none⟩ = some (.map (some gg)) := fun x => x.h.cell (hOs.cell (Joins.cell_of_block HPu.out 5) HGn.out.1) id
        have hld : ∀ x : Later w9, (loadVar 115 ⟨g2, 0, none⟩).run Tryz.prog x.w = .ok (.agg #[.int .i64 (x0 : Int), .int .i64 (x7 : Int), .int .i64 (x8 : Int)]) x.w := fun x => load115 rfl (x.h.keeps (hOs.keeps HKyu.out HGn.out.2.1) id)
        have hl7 : ∀ x : Later w9, (loadVar 117 ⟨g3, 0, none⟩).run Tryz.prog x.w = .ok (.agg #[.int .i64 (f : Int), .bool true]) x.w := fun x => load117 rfl (x.h.keeps HQ9.out id)
        clear hw9 q3 hOs c6 t1 z1 t0
        refine wp_region_head_later 6 (by kernel_rfl) (by kernel_rfl) ?_
        simp only [List.take_succ_cons, List.take_zero, List.drop_succ_cons, List.drop_zero]
        repeat (go_big_quiet_step (fail))
        refine wpQuiet_nil ?_
        rintro v ⟨x, hx⟩
        have hv := x.h
        rw [← hx] at hv
        clear hx hl5 hld hl7
        have HGv := Lib.hid (mapAny_only (mapAny_only HGu.out HO9.out HGn.out.2.2.1) hv id)
        go_upto_region 13 with (first
          | (at_mapUpdate
             refine wpList_mapUpdate_own _ rfl _ _ _ 69 rfl 115 117 keyed115 Tryz.underlying69 _ gg cnt _ rfl HGv.out (by have := HCn.out; unfold maxLen; omega) _ _ _ rfl rfl (by rw [← HKn.out]; exact keyOf3 HKey.out) _ [] (grpElem_mk2 _ _) ?_
             intro w5 hown5 hgrow5
             have HM5 := Lib.hid hown5
             have HL5 := Lib.hid (only_grown hgrow5)
             clear hown5 hgrow5))
        have t0 : w5.cell? ⟨g3, 0, none⟩ = some (.int .i64 (f : Int)) := HL5.out.cell (hv.cell (Joins.cell_of_block HQ9.out 0) id) HGn.out.2.2.1.symm
        have HF9 := Lib.hid (HFin.out true (by first | rfl | exact d7'.symm) (by rintro ⟨h1, h2⟩; first | exact h1 HK6.out | cases h2) w5 HM5.out (((HO9.out.mono (fun _ _ h => Or.inr h)).trans hv (fun _ h => h.elim)).trans HL5.out (fun k hk => Or.inl (Or.inl hk))))
        go_wp2_with fail
        go_ret
        exact HF9.out
theorem named_any {w : World} {g ge gk gg cnt gb at_ n c m cap kn : Nat} {M : Nat → Option Addr × Nat} {A Ao : Option Addr} {E : Ent} {out : List Ent} {grp : List Grp} {ns : List Nat} (hb : w.heap[g]? = some (.cells (prow A n c at_ gb (.slice Ao m cap) gk gg) 71 (0, 0))) (he : w.heap[ge]? = some (.cells (erow E none 0) 47 (0, 0)))
    (hg : w.ownsMap Tryz.prog 115 (grpElem (H := Unit)) gg cnt (gmap grp)) (hki : w.ownsMap Tryz.prog 9 (plainElem Tryz.prog 3) gk kn (kmap out)) (hR : RdE w Ao out M) (hEs : ∀ E ∈ out, E.path.length ≤ 500000) (hfar : ∀ ad, Ao = some ad → ad.block ≠ ge) (hne : gg ≠ gk) (hm : out.length = m) (hml : m ≤ 1000000) (hcn : cnt ≤ 1000000) (hns : NumOk ns) (hgo : GrpOk grp m) :
    Calls Tryz.prog 71 #[.pointer (some ⟨g, 0, none⟩), .pointer (some ⟨ge, 0, none⟩), .agg (arrN ns)] w (NamedPost ge gg cnt out grp E ns w) := by
  by_cases hk : E.kind = 1
  · by_cases h2 : ns.getD 2 0 ≤ 1
    · exact named_plain hb he hg hm hns (Or.inr h2)
    · cases hf : gfind grp (keyN ns) with
      | none => exact named_new hb he hg hm hml hcn hns hgo hk h2 hf
      | some v => exact named_old hb he hg hki hR hEs hfar hne hm hml hcn hns hgo hk h2 hf
  · exact named_plain hb he hg hm hns (Or.inl hk)
end Go.Proofs.YtpghionmmlidnaaGreatDoor.Walks
namespace Go.Proofs.YtpghionmmlidnaaGreatDoor.Walks
open Go Go.RowKit Go.Maps Go.Proofs.YtpghionmmlidnaaGreatDoor.Aid Go.Proofs.YtpghionmmlidnaaGreatDoor.Pth Go.Proofs.YtpghionmmlidnaaGreatDoor.Own Go.Proofs.YtpghionmmlidnaaGreatDoorW.PrintWords

theorem rdE_one {w : World} {b : Nat} {e : Ent3} (h : w.heap[b]? = some (.cells (erow e.1 e.2.1 e.2.2) 47 (0, 0))) (he : EntAt w e.1 e.2.1 e.2.2) : RdE w (some ⟨b, 0, none⟩) [e.1] (fun _ => e.2) := fun i E hi => by
  cases i with
  | zero =>
    have : e.1 = E := by simpa using hi
    subst this
    refine ⟨he, _, rfl, fun j v hv => ?_⟩
    have h2 : (⟨b, 0, none⟩ : Addr).add (0 * 8 + j) = ⟨b, j, none⟩ := by unfold Addr.add; split <;> simp_all
    rw [h2, Joins.cell_of_block h]
    exact hv
  | succ i => simp at hi
section
variable {o : Oper} {a : Act} {Q : Exit → Act → World → Prop}
/-- An entry is appended onto a slice of the call's own: the run. -/
theorem appE_run {W : World} {base : Nat} (ty : TypeId) (v : Value) (es : List Ent3) (e : Ent3) (b c : Nat) (HO : OwnE base W v es) (M : Nat → Option Addr × Nat) (hM : M 0 = e.2) (HR : RdE W (some ⟨b, 0, none⟩) [e.1] M)
    (hfar : ∀ ad, e.2.1 = some ad → 0 < e.1.data.length → some ad.block ≠ v.ownBlock) (hbase : base ≤ W.heap.size) (hl : es.length ≤ 1000000) :
    ∃ A1 c1 w1, (Builtin.append_ #[22, 22] ty #[v, .slice (some ⟨b, 0, none⟩) 1 c]).run Tryz.prog W = .ok (.slice A1 (es.length + 1) c1) w1 ∧ OwnE base w1 (.slice A1 (es.length + 1) c1) (es ++ [e]) ∧ Only (fun k => some k = v.ownBlock) W w1 := by
  obtain ⟨i, hi, hz, hsz, hby, hzs⟩ := infoE_any
  obtain ⟨z, hz'⟩ := Option.isSome_iff_exists.1 hz
  rw [hz', Option.getD_some] at hzs
  obtain ⟨hE, ad0, e0', hcell⟩ := HR 0 e.1 rfl
  injection e0' with e0'
  subst e0'
  rw [hM] at hE hcell
  obtain ⟨v1, w1, hr, hown, hg, _, hat⟩ := run_append_own_at (P := Tryz.prog) W base 22 ty 47 i z 8 96 Tryz.underlying22 hi hz' hsz hby hzs (by decide) v es.length (flat es) HO.1 ⟨b, 0, none⟩ 1 c (flat [e]) (flat_len [e]) (fun j u hu => by
    have hj : j < 8 := by have := (List.getElem?_eq_some_iff.1 hu).1; rw [flat_len] at this; simpa using this
    have h3 := flat_get [e] 0 j e rfl hj
    rw [Nat.zero_mul, Nat.zero_add] at h3
    have := hcell j u (by rw [← h3]; exact hu)
    rwa [Nat.zero_mul, Nat.zero_add] at this) (flat_one' e) (by unfold maxLen; omega) (by omega) hbase
  have hOwn : OwnE base w1 v1 (es ++ [e]) := by
    refine ⟨by rw [List.length_append, flat_append]; exact hown, fun f hf => ?_⟩
    have hef : EntAt W f.1 f.2.1 f.2.2 ∧ ∀ ad, f.2.1 = some ad → 0 < f.1.data.length → some ad.block ≠ v.ownBlock := by
      rcases List.mem_append.1 hf with h5 | h5
      · exact HO.2 f h5
      · rw [List.mem_singleton.1 h5]; exact ⟨hE, hfar⟩
    refine ⟨hef.1.apart hg hef.2, fun ad e2 h0 => ?_⟩
    rcases hat with h6 | h6
    · rw [h6]; exact hef.2 ad e2 h0
    · rw [h6]
      intro h7
      injection h7 with h7
      obtain ⟨ad', e3, hc⟩ := hef.1.1 (by rw [ints_len]; exact h0)
      rw [e2] at e3
      injection e3 with e3
      subst e3
      have hlt := World.block_lt_of_cell? W _ (hc 0 (by rw [ints_len]; exact h0))
      rw [block_add, h7] at hlt
      exact absurd hlt (Nat.lt_irrefl _)
  obtain ⟨A1, c1, e1, _, _⟩ := ownE_rd hOwn
  rw [List.length_append, List.length_singleton] at e1
  subst e1
  exact ⟨A1, c1, w1, hr, hOwn, hg.os, hg.tape, hg.output, hg.size, fun k hk hn => hg.block k hk (fun e2 => hn e2)⟩
/-- A slice of one entry is laid. -/
theorem bs_wp {W : World} {K : Act → World → Prop} (x : Operand) (ho : o.op = .buildSlice 22 1 #[(0, x)]) (e : Ent3) (hx : a.eval x = eval e.1 e.2.1 e.2.2) (h : K (a.put o.dst (.slice (some ⟨W.heap.size, 0, none⟩) 1 1)) (W.alloc (.cells (flat [e]).toArray 47))) : o.wp Tryz.prog a W K Q := by
  unfold Oper.wp execOp
  have e1 : (#[(0, x)] : Array (Nat × Operand)).map (fun p => (p.1, a.eval p.2)) = #[(0, eval e.1 e.2.1 e.2.2)] := by simp only [List.map_toArray, List.map_cons, List.map_nil, hx]
  simp only [ho, e1, Sem.run_bind, Sem.run_pure, Result.andThen_ok, lay1]
  exact h
/-- No bytes are appended onto bytes. -/
theorem appD0_wp {W : World} {K : Act → World → Prop} (s x : Operand) (ho : o.op = .call { callee := .builtin .append, args := #[s, x], argTypes := #[26, 26] }) (A A' : Option Addr) (l c c' : Nat) (hs : a.eval s = .slice A l c) (hx : a.eval x = .slice A' 0 c') (hl : l ≤ c)
    (h : K (a.put o.dst (.slice A l c)) W) : o.wp Tryz.prog a W K Q := by
  have hr : (Builtin.append_ #[26, 26] o.type #[.slice A l c, .slice A' 0 c']).run Tryz.prog W = .ok (.slice A l c) W := by
    obtain ⟨i, hi, _⟩ := OwnU.infoU_any
    cases A <;> cases A' <;> simp [Builtin.append_, run_underlying Tryz.underlying26, sizeOf, typeInfo, hi, Builtin.lenOf, Builtin.firstCells, loadCells, loadCellsFrom, hl, storeCells]
  unfold Oper.wp execOp
  simp only [ho, resolve, invoke, builtin, Sem.run_bind, Sem.run_pure, Result.andThen_ok, List.map_toArray, List.map_cons, List.map_nil, hs, hx, hr]
  exact h
/-- Bytes are appended onto none. -/
theorem appD1_wp {W : World} {K : Act → World → Prop} (s x : Operand) (ho : o.op = .call { callee := .builtin .append, args := #[s, x], argTypes := #[26, 26] }) (A : Option Addr) (n c : Nat) (l : Str) (hs : a.eval s = .slice none 0 0) (hx : a.eval x = .slice A n c) (hn : l.length = n) (h0 : 0 < n) (hl : n ≤ 1000000) (HR : RdU W A l)
    (h : ∀ c1 w1, n ≤ c1 → RdU w1 (some ⟨W.heap.size, 0, none⟩) l → Only (fun _ => False) W w1 → W.heap.size < w1.heap.size → K (a.put o.dst (.slice (some ⟨W.heap.size, 0, none⟩) n c1)) w1) : o.wp Tryz.prog a W K Q := by
  obtain ⟨i, hi, hz, hsz, hby, hzs⟩ := OwnU.infoU_any
  obtain ⟨z, hz'⟩ := Option.isSome_iff_exists.1 hz
  rw [hz', Option.getD_some] at hzs
  subst hn
  obtain ⟨ad, rfl, hcell⟩ := HR (by rw [ints_len]; exact h0)
  rw [ints_len] at hcell
  obtain ⟨v1, w1, hr, hown, hg, _, hat⟩ := run_append_own_at (P := Tryz.prog) W W.heap.size 26 o.type 5 i z 1 1 Tryz.underlying26 hi hz' hsz hby hzs (by decide) (.slice none 0 0) 0 [] (World.ownsRow_nil W _ _ 1) ad l.length c (OwnU.flatU (ints l)) (by simp [OwnU.flatU, ints_len]) (fun j u hu => by
    have hj : j < l.length := by have := (List.getElem?_eq_some_iff.1 hu).1; simpa [OwnU.flatU, ints_len] using this
    rw [OwnU.flatU_get (by rw [ints_len]; exact hj)] at hu
    rw [hcell j hj]
    exact hu) (fun u hu => by
      obtain ⟨s, _, rfl⟩ := List.mem_map.1 hu
      rfl) (by unfold maxLen; omega) (by omega) (Nat.le_refl _)
  have hO : OwnU.OwnU W.heap.size w1 v1 (ints l) := by
    unfold OwnU.OwnU
    rw [ints_len]
    have := hown
    rwa [Nat.zero_add, List.nil_append] at this
  have hOn : Only (fun _ => False) W w1 := ⟨hg.os, hg.tape, hg.output, hg.size, fun k hk _ => hg.block k hk (fun e2 => by cases e2)⟩
  rcases hO.2 with ⟨_, e0⟩ | ⟨g, cap, cur, rfl, hb, hgb, hnn, _⟩
  · rw [ints_len] at e0; omega
  · have hgs : g = W.heap.size := by
      rcases hat with h6 | h6
      · cases h6
      · exact Option.some.inj h6
    subst hgs
    obtain ⟨A1, c1, e1, _, h1⟩ := OwnU.ownU_rd hO
    injection e1 with e1 e2 e3
    subst e1
    rw [ints_len] at hr hnn
    unfold Oper.wp execOp
    simp only [ho, resolve, invoke, builtin, Sem.run_bind, Sem.run_pure, Result.andThen_ok, List.map_toArray, List.map_cons, List.map_nil, hs, hx, hr]
    exact h cap w1 hnn h1 hOn (Only.heap_lt hgb)
end
theorem flat_set : ∀ (es : List Ent3) (i : Nat) (E : Ent) (A A' : Option Addr) (c c' : Nat) (d : Str), es[i]? = some (E, A, c) →
    flat (es.set i ({ E with data := d }, A', c')) = (flat es).set (i * 8 + 7) (.slice A' d.length c')
  | [], i, E, A, A', c, c', d, h => by cases h
  | x :: r, 0, E, A, A', c, c', d, h => by
    have hx : x = (E, A, c) := by simpa using h
    subst hx
    rfl
  | x :: r, i + 1, E, A, A', c, c', d, h => by
    have h' : r[i]? = some (E, A, c) := by simpa using h
    have e1 : flat ((x :: r).set (i + 1) ({ E with data := d }, A', c')) = (erow x.1 x.2.1 x.2.2).toList ++ flat (r.set i ({ E with data := d }, A', c')) := rfl
    have e2 : flat (x :: r) = (erow x.1 x.2.1 x.2.2).toList ++ flat r := rfl
    rw [e1, e2, flat_set r i E A A' c c' d h', List.set_append_right _ _ (by show 8 ≤ (i + 1) * 8 + 7; omega), show (i + 1) * 8 + 7 - (erow x.1 x.2.1 x.2.2).toList.length = i * 8 + 7 from by show (i + 1) * 8 + 7 - 8 = _; omega]
/-- An entry's bytes are laid into a slice of the call's own. -/
theorem ownE_data {base : Nat} {w : World} {g cap : Nat} {es : List Ent3} {i : Nat} {E : Ent} {A A' : Option Addr} {c c' : Nat} {d : Str} (h : OwnE base w (.slice (some ⟨g, 0, none⟩) es.length cap) es) (hi : es[i]? = some (E, A, c)) (hd : RdU w A' d) (hc : d.length ≤ c')
    (hf : ∀ ad, A' = some ad → 0 < d.length → ad.block ≠ g) : OwnE base (w.setCell ⟨g, i * 8 + 7, none⟩ (.slice A' d.length c')) (.slice (some ⟨g, 0, none⟩) es.length cap) (es.set i ({ E with data := d }, A', c')) := by
  obtain ⟨⟨hl, h1⟩, h2⟩ := h
  have hil : i < es.length := (List.getElem?_eq_some_iff.1 hi).1
  have hO := only_put w g (i * 8 + 7) (.slice A' d.length c')
  rcases h1 with ⟨e, _⟩ | ⟨g', cap', cur, hv, hb, hg, hn, hc2, hs, ht⟩
  · cases e
  · injection hv with hv1 hv2 hv3
    injection hv1 with hv1
    injection hv1 with hv1
    subst hv1 hv3
    refine ⟨⟨?_, Or.inr ⟨g, cap, cur.setIfInBounds (i * 8 + 7) (.slice A' d.length c'), by rw [List.length_set], hb, heap_setCell_same w g _ _ _ _ hg, by rw [List.length_set]; exact hn, hc2, by rw [Array.size_setIfInBounds]; exact hs, ?_⟩⟩, fun e he => ?_⟩
    · rw [flat_set es i E A A' c c' d hi, List.length_set]; rw [List.length_set]; exact hl
    · rw [flat_set es i E A A' c c' d hi, ← ht, List.length_set]
      rw [Array.toList_setIfInBounds, List.take_set]
    · rcases List.mem_or_eq_of_mem_set he with h5 | h5
      · have h6 := h2 e h5
        exact ⟨⟨RdU.apart h6.1.1 hO (fun ad e1 h0 e2 => h6.2 ad e1 h0 (by rw [e2]; rfl)), h6.1.2⟩, h6.2⟩
      · rw [h5]
        exact ⟨⟨RdU.apart hd hO hf, hc⟩, fun ad e1 h0 e2 => hf ad e1 h0 (Option.some.inj e2)⟩
theorem ownE_but {S : Nat → Prop} {base : Nat} {w w' : World} {v : Value} {es : List Ent3} (h : OwnE base w v es) (ho : Only S w w') (h1 : ∀ b, v.ownBlock = some b → ¬ S b) (h2 : ∀ e ∈ es, ∀ ad, e.2.1 = some ad → 0 < e.1.data.length → ¬ S ad.block) : OwnE base w' v es := by
  obtain ⟨⟨hl, h3⟩, h4⟩ := h
  refine ⟨⟨hl, ?_⟩, fun e he => ⟨⟨fun h0 => ?_, (h4 e he).1.2⟩, (h4 e he).2⟩⟩
  · rcases h3 with h0 | ⟨g, cap, cur, hv, hb, hg, hn⟩
    · exact Or.inl h0
    · exact Or.inr ⟨g, cap, cur, hv, hb, ho.keeps hg (h1 g (by rw [hv]; rfl)), hn⟩
  · obtain ⟨ad, e1, hc⟩ := (h4 e he).1.1 h0
    have h5 : 0 < e.1.data.length := by rw [ints_len] at h0; exact h0
    exact ⟨ad, e1, fun j hj => ho.cell (hc j hj) (by rw [block_add]; exact h2 e he ad e1 h5)⟩
end Go.Proofs.YtpghionmmlidnaaGreatDoor.Walks
namespace Go.Proofs.YtpghionmmlidnaaGreatDoor.Walks
open Go Go.RowKit Go.Proofs.YtpghionmmlidnaaGreatDoor.Aid Go.Proofs.YtpghionmmlidnaaGreatDoor.Pth Go.Proofs.YtpghionmmlidnaaGreatDoor.Own Go.Proofs.YtpghionmmlidnaaGreatDoorW.PrintWords

def EndPost (b : Str) (at_ : Nat) (ns : List Nat) (w : World) (e : Ending) (w' : World) : Prop :=
  (if ns.getD 6 0 = 0 ∧ zerosB (b.drop at_) = true then e = .returned (.tuple #[]) else e = .panicked (faultC 2)) ∧ Only (fun _ => False) w w'
set_option maxRecDepth 100000 in
set_option maxHeartbeats 4000000 in
theorem end_any {b : Str} {w : World} {g : Nat} {ad : Addr} {n c at_ gb gk gg : Nat} {out : Value} {ns : List Nat} (hb : w.heap[g]? = some (.cells (prow (some ad) n c at_ gb out gk gg) 71 (0, 0))) (hR : RdU w (some ad) b) (hn : b.length = n) (hl : n ≤ 500000) (hc : n ≤ c) (hat : at_ ≤ n)
    (hns : NumOk ns) : Calls Tryz.prog 68 #[.pointer (some ⟨g, 0, none⟩), .agg (arrN ns)] w (EndPost b at_ ns w) := by
  have hO := (Only.refl (fun _ => False) w).alloc (.cells (arrN ns) 57)
  have hB := alloc_new w (.cells (arrN ns) 57)
  have hp := hO.keeps hb id
  have HO := Lib.hid hO
  have HRl := Lib.hid (fun u (hu : Only (fun _ => False) w u) => show RdU u (some (ad.add at_)) (b.drop at_) from by
    have := rdU_part (b := b) (ad := ad) (at_ := at_) (k := b.length - at_) (by omega) (hR.only hu)
    rwa [List.take_of_length_le (by rw [List.length_drop]; exact Nat.le_refl _)] at this)
  have HN := Lib.hid hn
  have HL := Lib.hid (show (b.drop at_).length = n - at_ by rw [List.length_drop, hn])
  obtain ⟨W, hW⟩ : ∃ W, w.alloc (.cells (arrN ns) 57) = W := ⟨_, rfl⟩
  obtain ⟨g1, hg1⟩ : ∃ g1, w.heap.size = g1 := ⟨_, rfl⟩
  have HW := Lib.hid (And.intro hW hg1)
  rw [hW, hg1] at hB
  rw [hW] at hp HO
  have c6 := (Joins.cell_of_block hB 6).trans (arrN_get (by rw [hns.1]; decide))
  have k0 : W.cell? ⟨g, 0, none⟩ = some (.slice (some ad) n c) := Joins.cell_of_block hp 0
  have k1 : W.cell? ⟨g, 1, none⟩ = some (.int .i64 (at_ : Int)) := Joins.cell_of_block hp 1
  have HPa := Lib.hid hp
  have HB := Lib.hid hB
  obtain ⟨x6, hx6⟩ : ∃ x, ns.getD 6 0 = x := ⟨_, rfl⟩
  rw [hx6] at c6
  have HX := Lib.hid hx6
  have b1 : (n : Int) ≤ 500000 := by omega
  have b2 : at_ ≤ n := hat
  have b3 : n ≤ c := hc
  clear hb hR hn hl hc hat hns hO hB hp hW hg1 hx6
  have HSl := Lib.hid (show c = at_ → n - at_ = 0 by omega)
  have HZ0 := Lib.hid (show n - at_ = 0 → b.drop at_ = [] from fun h => List.eq_nil_of_length_eq_zero (by rw [HL.out, h]))
  have HCc := Lib.hid (show n - at_ ≤ c - at_ by omega)
  have HM1 := Lib.hid (show n - at_ ≤ 1000000 by omega)
  by_cases k6 : x6 = 0
  case neg =>
    have d6 := (show ((x6 : Int) == 0) = false from by rw [beq_eq_false_iff_ne]; omega)
    have HP := Lib.hid (fun u (hu : Only (fun _ => False) W u) => show EndPost b at_ ns w (.panicked (faultC 2)) u from ⟨by rw [if_neg (by rw [HX.out]; exact fun h => k6 h.1)], HO.out.trans' hu⟩)
    have hcl : ∀ x : Later W, x.w.cell? ⟨g1, 6, none⟩ = some (.int .i64 (x6 : Int)) := fun x => x.h.cell c6 id
    clear k6
    go_enter Tryz.func68, Tryz.ntmps68
    go_upto_region 1 with (fail)
    change Code.wp Tryz.prog _ _ _ (w.alloc (.cells (arrN ns) 57))
    rw [HW.out.1, HW.out.2]
    refine wp_region_head_later 17 (by kernel_rfl) (by kernel_rfl) ?_
    simp only [List.take_succ_cons, List.take_zero, List.drop_succ_cons, List.drop_zero]
    repeat (go_big_quiet_step (fail))
    refine wpQuiet_nil ?_
    rintro u ⟨x, hx⟩
    have hu := x.h
    rw [← hx] at hu
    clear hx hcl
    go_wp2_with (go_at_call 64; refine (must_f ?hc _).mono ?_; case hc => first | rfl | assumption
                 rintro e w9 ⟨rfl, h9⟩; obtain rfl := h9)
    exact ⟨rfl, HP.out _ hu⟩
  have d6 := (show ((x6 : Int) == 0) = true from by rw [beq_iff_eq]; omega)
  have hcl : ∀ x : Later W, x.w.cell? ⟨g1, 6, none⟩ = some (.int .i64 (x6 : Int)) := fun x => x.h.cell c6 id
  have hc0 : ∀ x : Later W, x.w.cell? ⟨g, 0, none⟩ = some (.slice (some ad) n c) := fun x => x.h.cell k0 id
  have hc1 : ∀ x : Later W, x.w.cell? ⟨g, 1, none⟩ = some (.int .i64 (at_ : Int)) := fun x => x.h.cell k1 id
  have HK6 := Lib.hid k6
  clear k6
  by_cases e : c = at_
  · obtain ⟨A', m, k, htz, hT⟩ := trim_any (ad := ad) (c := 0) HL.out HM1.out (by have := HSl.out e; omega)
    have HT := Lib.hid hT
    have HTz := Lib.hid htz
    have HRz := Lib.hid (fun u (_ : Only (fun _ => False) W u) => show RdU u (some ad) (b.drop at_) from by rw [HZ0.out (HSl.out e)]; exact RdU.nil _ _)
    clear hT htz
    cases hz : zerosB (b.drop at_) with
    | true =>
      have dm : ((m : Int) == 0) = true := by rw [beq_iff_eq]; have := of_decide_eq_true (HTz.out.trans hz); omega
      have HP := Lib.hid (fun u (hu : Only (fun _ => False) W u) => show EndPost b at_ ns w (.returned (.tuple #[])) u from ⟨by rw [if_pos ⟨by rw [HX.out]; exact HK6.out, hz⟩], HO.out.trans' hu⟩)
      clear hz
      go_enter Tryz.func68, Tryz.ntmps68
      go_upto_region 1 with (fail)
      change Code.wp Tryz.prog _ _ _ (w.alloc (.cells (arrN ns) 57))
      rw [HW.out.1, HW.out.2]
      refine wp_region_head_later 17 (by kernel_rfl) (by kernel_rfl) ?_
      simp only [List.take_succ_cons, List.take_zero, List.drop_succ_cons, List.drop_zero]
      repeat (go_big_quiet_step ((go_at_call 93; exact Calls.later (HT.out _ (HRz.out _ (Later.h _))))))
      refine wpQuiet_nil ?_
      rintro u ⟨x, hx⟩
      have hu := x.h
      rw [← hx] at hu
      clear hx hcl hc0 hc1
      go_wp2_with (go_at_call 64; refine (must_t ?hc _).mono ?_; case hc => first | rfl | assumption
                   rintro e w9 ⟨rfl, h9⟩; obtain rfl := h9)
      go_end0
      exact HP.out _ hu
    | false =>
      have dm : ((m : Int) == 0) = false := by rw [beq_eq_false_iff_ne]; have := of_decide_eq_false (HTz.out.trans hz); omega
      have HP := Lib.hid (fun u (hu : Only (fun _ => False) W u) => show EndPost b at_ ns w (.panicked (faultC 2)) u from ⟨by rw [if_neg (fun h => by rw [hz] at h; cases h.2)], HO.out.trans' hu⟩)
      clear hz
      go_enter Tryz.func68, Tryz.ntmps68
      go_upto_region 1 with (fail)
      change Code.wp Tryz.prog _ _ _ (w.alloc (.cells (arrN ns) 57))
      rw [HW.out.1, HW.out.2]
      refine wp_region_head_later 17 (by kernel_rfl) (by kernel_rfl) ?_
      simp only [List.take_succ_cons, List.take_zero, List.drop_succ_cons, List.drop_zero]
      repeat (go_big_quiet_step ((go_at_call 93; exact Calls.later (HT.out _ (HRz.out _ (Later.h _))))))
      refine wpQuiet_nil ?_
      rintro u ⟨x, hx⟩
      have hu := x.h
      rw [← hx] at hu
      clear hx hcl hc0 hc1
      go_wp2_with (go_at_call 64; refine (must_f ?hc _).mono ?_; case hc => first | rfl | assumption
                   rintro e w9 ⟨rfl, h9⟩; obtain rfl := h9)
      exact ⟨rfl, HP.out _ hu⟩
  · obtain ⟨A', m, k, htz, hT⟩ := trim_any (ad := ad.add at_) (c := c - at_) HL.out HM1.out HCc.out
    have HT := Lib.hid hT
    have HTz := Lib.hid htz
    have HRz := Lib.hid (fun u (h : Only (fun _ => False) W u) => HRl.out u (HO.out.trans' h))
    clear hT htz
    cases hz : zerosB (b.drop at_) with
    | true =>
      have dm : ((m : Int) == 0) = true := by rw [beq_iff_eq]; have := of_decide_eq_true (HTz.out.trans hz); omega
      have HP := Lib.hid (fun u (hu : Only (fun _ => False) W u) => show EndPost b at_ ns w (.returned (.tuple #[])) u from ⟨by rw [if_pos ⟨by rw [HX.out]; exact HK6.out, hz⟩], HO.out.trans' hu⟩)
      clear hz
      go_enter Tryz.func68, Tryz.ntmps68
      go_upto_region 1 with (fail)
      change Code.wp Tryz.prog _ _ _ (w.alloc (.cells (arrN ns) 57))
      rw [HW.out.1, HW.out.2]
      refine wp_region_head_later 17 (by kernel_rfl) (by kernel_rfl) ?_
      simp only [List.take_succ_cons, List.take_zero, List.drop_succ_cons, List.drop_zero]
      repeat (go_big_quiet_step ((go_at_call 93; exact Calls.later (HT.out _ (HRz.out _ (Later.h _))))))
      refine wpQuiet_nil ?_
      rintro u ⟨x, hx⟩
      have hu := x.h
      rw [← hx] at hu
      clear hx hcl hc0 hc1
      go_wp2_with (go_at_call 64; refine (must_t ?hc _).mono ?_; case hc => first | rfl | assumption
                   rintro e w9 ⟨rfl, h9⟩; obtain rfl := h9)
      go_end0
      exact HP.out _ hu
    | false =>
      have dm : ((m : Int) == 0) = false := by rw [beq_eq_false_iff_ne]; have := of_decide_eq_false (HTz.out.trans hz); omega
      have HP := Lib.hid (fun u (hu : Only (fun _ => False) W u) => show EndPost b at_ ns w (.panicked (faultC 2)) u from ⟨by rw [if_neg (fun h => by rw [hz] at h; cases h.2)], HO.out.trans' hu⟩)
      clear hz
      go_enter Tryz.func68, Tryz.ntmps68
      go_upto_region 1 with (fail)
      change Code.wp Tryz.prog _ _ _ (w.alloc (.cells (arrN ns) 57))
      rw [HW.out.1, HW.out.2]
      refine wp_region_head_later 17 (by kernel_rfl) (by kernel_rfl) ?_
      simp only [List.take_succ_cons, List.take_zero, List.drop_succ_cons, List.drop_zero]
      repeat (go_big_quiet_step ((go_at_call 93; exact Calls.later (HT.out _ (HRz.out _ (Later.h _))))))
      refine wpQuiet_nil ?_
      rintro u ⟨x, hx⟩
      have hu := x.h
      rw [← hx] at hu
      clear hx hcl hc0 hc1
      go_wp2_with (go_at_call 64; refine (must_f ?hc _).mono ?_; case hc => first | rfl | assumption
                   rintro e w9 ⟨rfl, h9⟩; obtain rfl := h9)
      exact ⟨rfl, HP.out _ hu⟩
end Go.Proofs.YtpghionmmlidnaaGreatDoor.Walks
namespace Go.Proofs.YtpghionmmlidnaaGreatDoor.Walks
open Go Go.RowKit Go.Maps Go.Proofs.YtpghionmmlidnaaGreatDoor.Aid Go.Proofs.YtpghionmmlidnaaGreatDoor.Pth Go.Proofs.YtpghionmmlidnaaGreatDoor.Own Go.Proofs.YtpghionmmlidnaaGreatDoorW.PrintWords

/-- What stays: the world ahead of Parse, the blocks of parser, budget, kinds and groups, the bytes, the limits. -/
structure PK where
  w0 : World
  base : Nat
  g : Nat
  gb : Nat
  gk : Nat
  gg : Nat
  ad : Addr
  n : Nat
  c : Nat
  b : Str
  lim : Lim
  r : Nat
structure PK.Ok (K : PK) : Prop where
  rd : RdU K.w0 (some K.ad) K.b
  len : K.b.length = K.n
  nl : K.n ≤ 500000
  cap : K.n ≤ K.c
  ml : MaxLen K.w0
  adl : K.ad.block < K.w0.heap.size
  new : K.w0.heap.size ≤ K.g ∧ K.w0.heap.size ≤ K.gb ∧ K.w0.heap.size ≤ K.gk ∧ K.w0.heap.size ≤ K.gg
  low : K.g < K.base ∧ K.gb < K.base ∧ K.gk < K.base ∧ K.gg < K.base
  ne : K.g ≠ K.gb ∧ K.g ≠ K.gk ∧ K.g ≠ K.gg ∧ K.gb ≠ K.gk ∧ K.gb ≠ K.gg ∧ K.gk ≠ K.gg
  lim : K.lim.ok = true
/-- A thing whose bytes were not there yet has none; no two things begin with one entry. -/
def GInv (grp : List Grp) (out : List Ent) : Prop :=
  (∀ k f, gfind grp k = some (f, false) → (out.getD f e0).data = []) ∧ (∀ k k' f x x', gfind grp k = some (f, x) → gfind grp k' = some (f, x') → k = k')
structure PX (K : PK) (st : PS) (outV : Value) (es : List Ent3) (cg ck : Nat) (ow : Int) (u : World) : Prop where
  par : u.heap[K.g]? = some (.cells (prow (some K.ad) K.n K.c st.pos K.gb outV K.gk K.gg) 71 (0, 0))
  bud : u.heap[K.gb]? = some (Bud.bud K.lim.entry K.lim.total K.lim.entries K.lim.path K.r (st.out.length : Int) st.total ow)
  own : OwnE K.base u outV es
  map : es.map (·.1) = st.out
  nil : ∀ e ∈ es, (e.1.data = [] ∧ e.2 = (none, 0)) ∨ (e.1.data ≠ [] ∧ ∃ k cap, e.2 = (some ⟨k, 0, none⟩, cap) ∧ K.base ≤ k)
  kin : u.ownsMap Tryz.prog 9 (plainElem Tryz.prog 3) K.gk ck (kmap st.out)
  grp : u.ownsMap Tryz.prog 115 (grpElem (H := Unit)) K.gg cg (gmap st.grp)
  ckl : ck ≤ st.out.length
  only : Only (fun _ => False) K.w0 u
  siz : K.base ≤ u.heap.size
  pos : st.pos ≤ K.n
  cnt : st.out.length ≤ st.pos
  tot : 0 ≤ st.total ∧ st.total ≤ K.lim.total
  own0 : 0 ≤ ow ∧ ow ≤ K.lim.entry
  pth : ∀ E ∈ st.out, E.path.length ≤ 500000
/-- The groups hold together. -/
structure GI (st : PS) (cg : Nat) : Prop where
  cgl : cg ≤ st.out.length
  gok : GrpOk st.grp st.out.length
  ginv : GInv st.grp st.out
section
variable {K : PK} {st : PS} {outV : Value} {es : List Ent3} {cg ck : Nat} {ow : Int} {u v : World}
theorem PX.len (h : PX K st outV es cg ck ow u) : es.length = st.out.length := by rw [← h.map, List.length_map]
theorem PX.shape (h : PX K st outV es cg ck ow u) : ∃ A cap, outV = .slice A st.out.length cap ∧ RdE u A st.out (atE es) ∧ ∀ ad, A = some ad → ad = ⟨ad.block, 0, none⟩ ∧ K.base ≤ ad.block ∧ ad.block < u.heap.size ∧ outV.ownBlock = some ad.block := by
  obtain ⟨A, cap, e, hc, hr⟩ := ownE_rd h.own
  rw [h.len] at e hc
  rw [h.map] at hr
  refine ⟨A, cap, e, hr, fun ad hA => ?_⟩
  subst hA
  rcases h.own.1.2 with ⟨e2, _⟩ | ⟨g, cap', cur, e2, hb, hg, _⟩
  · rw [e] at e2; cases e2
  · rw [e] at e2
    injection e2 with e2 _ _
    injection e2 with e2
    subst e2
    exact ⟨rfl, hb, Only.heap_lt hg, by rw [e]; rfl⟩
theorem PX.data_lt (h : PX K st outV es cg ck ow u) : ∀ e ∈ es, ∀ ad, e.2.1 = some ad → 0 < e.1.data.length → ad.block < u.heap.size ∧ K.base ≤ ad.block := fun e he ad e1 h0 => by
  obtain ⟨ad', e2, hc⟩ := (h.own.2 e he).1.1.cells h0
  rw [e1] at e2
  injection e2 with e2
  subst e2
  refine ⟨?_, ?_⟩
  · have := World.block_lt_of_cell? u _ (hc 0 h0)
    rwa [block_add] at this
  · rcases h.nil e he with ⟨h1, _⟩ | ⟨_, k, cap, h2, h3⟩
    · rw [h1] at h0; exact absurd h0 (Nat.lt_irrefl 0)
    · rw [h2] at e1
      injection e1 with e1
      rw [← e1]; exact h3
/-- None of the blocks of S is the entries' or bears an entry's bytes. -/
def Far (outV : Value) (es : List Ent3) (S : Nat → Prop) : Prop := (∀ b, outV.ownBlock = some b → ¬ S b) ∧ ∀ e ∈ es, ∀ ad, e.2.1 = some ad → 0 < e.1.data.length → ¬ S ad.block
theorem PX.fresh (h : PX K st outV es cg ck ow u) {x : Nat} (hx : u.heap.size ≤ x) : Far outV es (fun b => b = x) :=
  ⟨fun b e e2 => by have := (ownE_lt h.own e).1; omega, fun e he ad e1 h0 e2 => by have := (h.data_lt e he ad e1 h0).1; omega⟩
/-- Blocks apart from all of the reader's are turned. -/
theorem PX.but {S : Nat → Prop} (h : PX K st outV es cg ck ow u) (ho : Only S u v) (h1 : ¬ S K.g) (h2 : ¬ S K.gb) (h3 : ¬ S K.gk) (h4 : ¬ S K.gg) (hb : ∀ b, S b → K.w0.heap.size ≤ b) (hf : Far outV es S) : PX K st outV es cg ck ow v :=
  ⟨ho.keeps h.par h1, ho.keeps h.bud h2, ownE_but h.own ho hf.1 hf.2, h.map, h.nil, mapAny_only h.kin ho h3, mapAny_only h.grp ho h4, h.ckl,
    h.only.trans ho (fun k hk => Or.inr (hb k hk)), Nat.le_trans h.siz ho.size, h.pos, h.cnt, h.tot, h.own0, h.pth⟩
theorem PX.step (h : PX K st outV es cg ck ow u) (ho : Only (fun _ => False) u v) : PX K st outV es cg ck ow v := h.but ho id id id id (fun _ h => h.elim) ⟨fun _ _ => id, fun _ _ _ _ _ => id⟩
/-- A cell of a block above the reader's is turned. -/
theorem PX.set (h : PX K st outV es cg ck ow u) (hK : K.Ok) {x : Nat} (hx : K.base ≤ x) (hf : Far outV es (fun b => b = x)) (i : Nat) (y : Value) : PX K st outV es cg ck ow (u.setCell ⟨x, i, none⟩ y) := by
  have hl := hK.low
  have hn := hK.new
  exact h.but (only_put u x i y) (by omega) (by omega) (by omega) (by omega) (fun b e => by omega) hf
/-- The reader goes on. -/
theorem PX.move (h : PX K st outV es cg ck ow u) (hK : K.Ok) (k : Nat) (hp : v.heap[K.g]? = some (.cells (prow (some K.ad) K.n K.c (st.pos + k) K.gb outV K.gk K.gg) 71 (0, 0))) (ho : Only (fun b => b = K.g) u v) (hk : st.pos + k ≤ K.n) :
    PX K { st with pos := st.pos + k } outV es cg ck ow v := by
  obtain ⟨n1, n2, n3, n4, n5, n6⟩ := hK.ne
  exact ⟨hp, ho.keeps h.bud (Ne.symm n1), ownE_but h.own ho (fun b e e2 => by have := (ownE_lt h.own e).2; have := hK.low; omega) (fun e he ad e1 h0 e2 => by have := (h.data_lt e he ad e1 h0).2; have := hK.low; omega), h.map, h.nil,
    mapAny_only h.kin ho (Ne.symm n2), mapAny_only h.grp ho (Ne.symm n3), h.ckl, h.only.trans ho (fun b hb => Or.inr (by rw [hb]; exact hK.new.1)), Nat.le_trans h.siz ho.size, hk, Nat.le_trans h.cnt (Nat.le_add_right _ _), h.tot, h.own0, h.pth⟩
/-- The groups are turned, and a block above the reader's. -/
theorem PX.group (h : PX K st outV es cg ck ow u) (hK : K.Ok) {x cg' : Nat} {grp' : List Grp} (hx : K.base ≤ x) (hf : Far outV es (fun b => b = x)) (hm : v.ownsMap Tryz.prog 115 (grpElem (H := Unit)) K.gg cg' (gmap grp')) (ho : Only (fun b => b = x ∨ b = K.gg) u v) : PX K { st with grp := grp' } outV es cg' ck ow v := by
  obtain ⟨n1, n2, n3, n4, n5, n6⟩ := hK.ne
  have hl := hK.low
  have hn := hK.new
  exact ⟨ho.keeps h.par (by omega), ho.keeps h.bud (by omega), ownE_but h.own ho (fun b e e2 => e2.elim (hf.1 b e) (fun e2 => by have := (ownE_lt h.own e).2; omega)) (fun e he ad e1 h0 e2 => e2.elim (hf.2 e he ad e1 h0) (fun e2 => by have := (h.data_lt e he ad e1 h0).2; omega)), h.map, h.nil,
    mapAny_only h.kin ho (by omega), hm, h.ckl, h.only.trans ho (fun b hb => Or.inr (by omega)), Nat.le_trans h.siz ho.size, h.pos, h.cnt, h.tot, h.own0, h.pth⟩
/-- An entry has come. -/
theorem PX.append (h : PX K st outV es cg ck ow u) (hK : K.Ok) {E : Ent} {v1 : Value} {w4 w3 w2 w1 : World} (hd : E.data = []) (hp : E.path.length ≤ 500000) (hpos : st.out.length < st.pos)
    (hb4 : w4.heap[K.gb]? = some (Bud.bud K.lim.entry K.lim.total K.lim.entries K.lim.path K.r ((st.out.length : Int) + 1) st.total 0)) (ho4 : Only (fun b => b = K.gb) u w4)
    (hm3 : w3.ownsMap Tryz.prog 9 (plainElem Tryz.prog 3) K.gk (ck + 1) (kmap (st.out ++ [E]))) (ho3 : Only (fun b => b = K.gk) w4 w3)
    (hw2 : OwnE K.base w2 v1 (es ++ [(E, none, 0)])) (ho2 : Only (fun b => some b = outV.ownBlock) w3 w2)
    (hp1 : w1.heap[K.g]? = some (.cells (prow (some K.ad) K.n K.c st.pos K.gb v1 K.gk K.gg) 71 (0, 0))) (ho1 : Only (fun b => b = K.g) w2 w1) : PX K { st with out := st.out ++ [E] } v1 (es ++ [(E, none, 0)]) cg (ck + 1) 0 w1 := by
  obtain ⟨n1, n2, n3, n4, n5, n6⟩ := hK.ne
  have hl := hK.low
  have hn := hK.new
  have hob : ∀ b, some b = outV.ownBlock → K.base ≤ b := fun b e => (ownE_lt h.own e.symm).2
  have hlim := hK.lim
  have hfar : ∀ e ∈ es ++ [(E, none, 0)], ∀ ad, e.2.1 = some ad → 0 < e.1.data.length → K.base ≤ ad.block := fun e he ad e1 h0 => by
    rcases List.mem_append.1 he with h5 | h5
    · exact (h.data_lt e h5 ad e1 h0).2
    · rw [List.mem_singleton.1 h5] at e1; cases e1
  have hlen : (((st.out ++ [E]).length : Nat) : Int) = (st.out.length : Int) + 1 := by rw [List.length_append, List.length_singleton]; omega
  have hO : Only (fun _ => False) K.w0 w1 := by
    refine (((h.only.trans ho4 (fun b hb => Or.inr ?_)).trans ho3 (fun b hb => Or.inr ?_)).trans ho2 (fun b hb => Or.inr ?_)).trans ho1 (fun b hb => Or.inr ?_)
    · omega
    · omega
    · have := hob b hb; omega
    · omega
  refine ⟨hp1, ?_, ?_, by rw [List.map_append, h.map]; rfl, ?_, ?_, ?_, by rw [List.length_append, List.length_singleton]; exact Nat.succ_le_succ h.ckl, hO, Nat.le_trans h.siz (Nat.le_trans ho4.size (Nat.le_trans ho3.size (Nat.le_trans ho2.size ho1.size))), h.pos, by rw [List.length_append, List.length_singleton]; exact hpos, h.tot, ⟨Int.le_refl 0, ?_⟩, ?_⟩
  · show w1.heap[K.gb]? = some (Bud.bud _ _ _ _ _ (((st.out ++ [E]).length : Nat) : Int) _ _)
    rw [hlen]
    exact ho1.keeps (ho2.keeps (ho3.keeps hb4 n4) (fun e => by have := hob _ e; omega)) (Ne.symm n1)
  · exact ownE_but hw2 ho1 (fun b e e2 => by have := (ownE_lt hw2 e).2; omega) (fun e he ad e1 h0 e2 => by have := hfar e he ad e1 h0; omega)
  · intro e he
    rcases List.mem_append.1 he with h5 | h5
    · exact h.nil e h5
    · rw [List.mem_singleton.1 h5]; exact Or.inl ⟨hd, rfl⟩
  · exact mapAny_only (mapAny_only hm3 ho2 (fun e => by have := hob _ e; omega)) ho1 (Ne.symm n2)
  · exact mapAny_only (mapAny_only (mapAny_only (mapAny_only h.grp ho4 (Ne.symm n5)) ho3 (Ne.symm n6)) ho2 (fun e => by have := hob _ e; omega)) ho1 (Ne.symm n3)
  · unfold Lim.ok Bud.mayB Bud.withinB at hlim
    simp only [Bool.and_eq_true, decide_eq_true_eq] at hlim
    exact hlim.1.1.1.1
  · intro F hF
    rcases List.mem_append.1 hF with h5 | h5
    · exact h.pth F h5
    · rw [List.mem_singleton.1 h5]; exact hp
theorem PX.rd (h : PX K st outV es cg ck ow u) (hK : K.Ok) : RdU u (some K.ad) K.b := hK.rd.only h.only
theorem PX.ml (h : PX K st outV es cg ck ow u) (hK : K.Ok) : MaxLen u := by
  obtain ⟨m, hm⟩ := hK.ml
  exact ⟨m, h.only.cell hm id⟩
end
theorem PK.Ok.g1 {K : PK} (hK : K.Ok) : K.g ≠ 1 := by
  obtain ⟨m, hm⟩ := hK.ml
  have := World.block_lt_of_cell? K.w0 _ hm
  have := hK.new
  simp at *
  omega
theorem PK.Ok.adg {K : PK} (hK : K.Ok) : K.ad.block ≠ K.g := by have := hK.adl; have := hK.new; omega
section
variable {K : PK} {st : PS} {outV : Value} {es : List Ent3} {cg ck : Nat} {ow : Int} {u : World}
/-- take, of the state. -/
theorem take_px (hK : K.Ok) (h : PX K st outV es cg ck ow u) (k : Nat) (hk : st.pos + k ≤ K.n) : Calls Tryz.prog 65 #[.pointer (some ⟨K.g, 0, none⟩), .int .i64 (k : Int)] u fun e w' =>
    ∃ A', e = .returned (.slice A' k (K.c - st.pos)) ∧ RdU w' A' ((K.b.drop st.pos).take k) ∧ (0 < k → A' = some (K.ad.add st.pos)) ∧ PX K { st with pos := st.pos + k } outV es cg ck ow w' ∧ Only (fun b => b = K.g) u w' :=
  (take_yes h.par k (Nat.le_trans hK.nl (by omega)) hK.cap hk).mono fun e w' ⟨A', h1, h2, h3, h4⟩ => ⟨A', h1, by
    have hm := h.move hK k h3 h4 hk
    by_cases h0 : 0 < k
    · rw [h2 h0]; exact rdU_part (by rw [hK.len]; exact hk) (hm.rd hK)
    · obtain rfl : k = 0 := by omega
      rw [List.take_zero]; exact RdU.nil _ _, h2, h.move hK k h3 h4 hk, h4⟩
theorem take_px_no (hK : K.Ok) (h : PX K st outV es cg ck ow u) (k : Nat) (hk : K.n < st.pos + k) : Calls Tryz.prog 65 #[.pointer (some ⟨K.g, 0, none⟩), .int .i64 (k : Int)] u fun e w' => e = .panicked (faultC 2) ∧ Only (fun _ => False) K.w0 w' :=
  (take_no h.par (k : Int) (Nat.le_trans hK.nl (by omega)) h.pos (by have := h.pos; omega)).mono fun e w' ⟨h1, h2⟩ => ⟨h1, h.only.trans' h2⟩
theorem align_px (hK : K.Ok) (h : PX K st outV es cg ck ow u) (hk : st.pos + padN st.pos ≤ K.n) : Calls Tryz.prog 69 #[.pointer (some ⟨K.g, 0, none⟩)] u fun e w' =>
    e = .returned (.tuple #[]) ∧ PX K { st with pos := st.pos + padN st.pos } outV es cg ck ow w' ∧ Only (fun b => b = K.g) u w' :=
  (align_yes h.par (Nat.le_trans hK.nl (by omega)) hK.cap hk).mono fun e w' ⟨h1, h2, h3⟩ => ⟨h1, h.move hK _ h2 h3 hk, h3⟩
theorem align_px_no (hK : K.Ok) (h : PX K st outV es cg ck ow u) (hk : K.n < st.pos + padN st.pos) : Calls Tryz.prog 69 #[.pointer (some ⟨K.g, 0, none⟩)] u fun e w' => e = .panicked (faultC 2) ∧ Only (fun _ => False) K.w0 w' :=
  (align_no h.par (Nat.le_trans hK.nl (by omega)) h.pos hk).mono fun e w' ⟨h1, h2⟩ => ⟨h1, h.only.trans' h2⟩
end
/-- What a step leaves. -/
def NextPost (K : PK) (st : PS) (e : Ending) (w' : World) : Prop := match nextL K.b K.lim st with
  | .error c => e = .panicked (faultC c) ∧ Only (fun _ => False) K.w0 w'
  | .ok none => e = .returned (.bool false) ∧ ∃ st' outV es cg ck ow, st'.out = st.out ∧ PX K st' outV es cg ck ow w'
  | .ok (some st') => e = .returned (.bool true) ∧ ∃ outV es cg ck ow, PX K st' outV es cg ck ow w' ∧ GI st' cg
end Go.Proofs.YtpghionmmlidnaaGreatDoor.Walks
namespace Go.Proofs.YtpghionmmlidnaaGreatDoor.Walks
open Go Go.RowKit Go.Proofs.YtpghionmmlidnaaGreatDoor.Aid Go.Proofs.YtpghionmmlidnaaGreatDoor.Pth Go.Proofs.YtpghionmmlidnaaGreatDoor.Own Go.Proofs.YtpghionmmlidnaaGreatDoorW.PrintWords

theorem addData_len (out : List Ent) (i : Nat) (d : Str) : (addData out i d).length = out.length := by unfold addData; rw [List.length_set]
theorem addData_same {out : List Ent} {i : Nat} (d : Str) (h : i < out.length) : (addData out i d).getD i e0 = { out.getD i e0 with data := (out.getD i e0).data ++ d } := by
  unfold addData
  rw [List.getD_eq_getElem?_getD, List.getElem?_set_self h]; rfl
theorem addData_other {out : List Ent} {i j : Nat} (d : Str) (h : i ≠ j) : (addData out i d).getD j e0 = out.getD j e0 := by
  unfold addData
  rw [List.getD_eq_getElem?_getD, List.getElem?_set_ne h, List.getD_eq_getElem?_getD]
theorem getD_low {out : List Ent} (E : Ent) {j : Nat} (h : j < out.length) : (out ++ [E]).getD j e0 = out.getD j e0 := by
  rw [List.getD_eq_getElem?_getD, List.getD_eq_getElem?_getD, List.getElem?_append_left h]
theorem getD_end (out : List Ent) (E : Ent) : (out ++ [E]).getD out.length e0 = E := by
  rw [List.getD_eq_getElem?_getD, List.getElem?_append_right (Nat.le_refl _), Nat.sub_self]; rfl
theorem gfind_cons (k : Nat × Nat × Nat) (v : Nat × Bool) (g : List Grp) (k' : Nat × Nat × Nat) : gfind ((k, v) :: g) k' = if k = k' then some v else gfind g k' := rfl
/-- What named tells of an entry. -/
theorem namedL_facts {st : PS} {cg : Nat} (hG : GI st cg) {e E2 : Ent} {ns : List Nat} {whose : Nat} {grp2 : List Grp} (hns : NumOk ns) (hd : e.data = []) (h : namedL st.out st.grp e ns = some (E2, whose, grp2)) :
    whose ≤ st.out.length ∧ E2.path = e.path ∧ E2.data = [] ∧ (E2.kind = e.kind ∨ (e.kind = 1 ∧ E2.kind = 4)) ∧ (e.kind ≠ 1 → E2 = e ∧ grp2 = st.grp) ∧
    (∀ (d : Str), d.length = ns.getD 6 0 → ∀ p t, GI ⟨p, t, addData (st.out ++ [E2]) whose d, grp2⟩ (cg + 1)) ∧ (ns.getD 6 0 = 0 ∨ ((st.out ++ [E2]).getD whose e0).data = []) := by
  obtain ⟨hc, hgo, hi1, hi2⟩ := hG
  have hlow : ∀ k f x, gfind st.grp k = some (f, x) → f < st.out.length := fun k f x h => (hgo _ (gfind_mem h)).2
  have hgo2 : ∀ E, GrpOk st.grp (st.out ++ [E]).length := fun E x hx => ⟨(hgo x hx).1, by rw [List.length_append, List.length_singleton]; have := (hgo x hx).2; omega⟩
  have plain : ∀ (E : Ent), E.data = [] → ∀ (d : Str) p t, GI ⟨p, t, addData (st.out ++ [E]) st.out.length d, st.grp⟩ (cg + 1) := fun E hE d p t =>
    ⟨by rw [addData_len, List.length_append, List.length_singleton]; exact Nat.succ_le_succ hc, by rw [addData_len]; exact hgo2 E, fun k f hf => by
      have hl := hlow k f _ hf
      show (List.getD (addData (st.out ++ [E]) st.out.length d) f e0).data = []
      rw [addData_other d (by omega), getD_low E hl]
      exact hi1 k f hf, hi2⟩
  unfold namedL at h
  by_cases c1 : e.kind ≠ 1
  · rw [if_pos c1] at h
    injection h with h; injection h with h1 h; injection h with h2 h3; subst h1 h2 h3
    exact ⟨Nat.le_refl _, rfl, hd, Or.inl rfl, fun _ => ⟨rfl, rfl⟩, fun d _ => plain e hd d, Or.inr (by rw [getD_end]; exact hd)⟩
  rw [if_neg c1] at h
  by_cases c2 : ns.getD 2 0 ≤ 1
  · rw [if_pos c2] at h
    injection h with h; injection h with h1 h; injection h with h2 h3; subst h1 h2 h3
    exact ⟨Nat.le_refl _, rfl, hd, Or.inl rfl, fun h => absurd h c1, fun d _ => plain e hd d, Or.inr (by rw [getD_end]; exact hd)⟩
  rw [if_neg c2] at h
  cases hf : gfind st.grp (keyN ns) with
  | none =>
    rw [hf] at h
    injection h with h; injection h with h1 h; injection h with h2 h3; subst h1 h2 h3
    refine ⟨Nat.le_refl _, rfl, hd, Or.inl rfl, fun h => absurd h c1, fun d hdl p t => ⟨by rw [addData_len, List.length_append, List.length_singleton]; exact Nat.succ_le_succ hc, ?_, ?_, ?_⟩, Or.inr (by rw [getD_end]; exact hd)⟩
    · rw [addData_len]
      intro x hx
      rcases List.mem_cons.1 hx with hx | hx
      · rw [hx]
        exact ⟨keyN_ok hns, by rw [List.length_append, List.length_singleton]; exact Nat.lt_succ_self _⟩
      · exact hgo2 e x hx
    · intro k f hk
      dsimp only at hk
      show (List.getD (addData (st.out ++ [e]) st.out.length d) f e0).data = []
      rw [gfind_cons] at hk
      by_cases ck : keyN ns = k
      · rw [if_pos ck] at hk
        injection hk with hk; injection hk with hk1 hk2
        subst hk1
        have h0 : d = [] := List.eq_nil_of_length_eq_zero (by have := of_decide_eq_false hk2; omega)
        rw [addData_same d (by rw [List.length_append, List.length_singleton]; exact Nat.lt_succ_self _), getD_end, h0]
        show e.data ++ [] = []
        rw [hd]; rfl
      · rw [if_neg ck] at hk
        have hl := hlow k f _ hk
        rw [addData_other d (by omega), getD_low e hl]
        exact hi1 k f hk
    · intro k k' f x x' hk hk'
      dsimp only at hk hk'
      rw [gfind_cons] at hk hk'
      by_cases ck : keyN ns = k
      · by_cases ck' : keyN ns = k'
        · rw [← ck, ← ck']
        · rw [if_pos ck] at hk
          rw [if_neg ck'] at hk'
          injection hk with hk; injection hk with hk1 _
          have := hlow k' f _ hk'
          omega
      · by_cases ck' : keyN ns = k'
        · rw [if_neg ck] at hk
          rw [if_pos ck'] at hk'
          injection hk' with hk'; injection hk' with hk1 _
          have := hlow k f _ hk
          omega
        · rw [if_neg ck] at hk
          rw [if_neg ck'] at hk'
          exact hi2 k k' f x x' hk hk'
  | some v =>
    obtain ⟨f0, by_⟩ := v
    have hl0 := hlow _ _ _ hf
    rw [hf] at h
    dsimp only at h
    by_cases c3 : lastKind st.out (st.out.getD f0 e0).path ≠ 1
    · rw [if_pos c3] at h; cases h
    rw [if_neg c3] at h
    by_cases c4 : ¬ ns.getD 6 0 = 0 ∧ by_ = true
    · rw [if_pos c4] at h; cases h
    rw [if_neg c4] at h
    injection h with h; injection h with h1 h; injection h with h2 h3; subst h1 h2 h3
    refine ⟨Nat.le_of_lt hl0, rfl, hd, Or.inr ⟨Classical.not_not.1 c1, rfl⟩, fun h => absurd h c1, fun d hdl p t => ⟨by rw [addData_len, List.length_append, List.length_singleton]; exact Nat.succ_le_succ hc, ?_, ?_, ?_⟩, ?_⟩
    · rw [addData_len]
      intro x hx
      rcases List.mem_cons.1 hx with hx | hx
      · rw [hx]
        exact ⟨keyN_ok hns, by rw [List.length_append, List.length_singleton]; show f0 < _; omega⟩
      · exact hgo2 _ x hx
    · intro k f hk
      dsimp only at hk
      rw [gfind_cons] at hk
      by_cases ck : keyN ns = k
      · rw [if_pos ck] at hk
        injection hk with hk; injection hk with hk1 hk2
        subst hk1
        rw [Bool.or_eq_false_iff] at hk2
        have h0 : d = [] := List.eq_nil_of_length_eq_zero (by have := of_decide_eq_false hk2.2; omega)
        rw [hk2.1] at hf
        show (List.getD (addData _ f0 d) f0 e0).data = []
        rw [addData_same d (by rw [List.length_append, List.length_singleton]; omega), getD_low _ hl0, h0]
        show (st.out.getD f0 e0).data ++ [] = []
        rw [hi1 _ _ hf]; rfl
      · rw [if_neg ck] at hk
        have hl := hlow k f _ hk
        have hne : f0 ≠ f := fun e => ck (hi2 _ _ _ _ _ (by rw [← e]; exact hf) hk)
        show (List.getD (addData _ f0 d) f e0).data = []
        rw [addData_other d hne, getD_low _ hl]
        exact hi1 k f hk
    · intro k k' f x x' hk hk'
      dsimp only at hk hk'
      rw [gfind_cons] at hk hk'
      by_cases ck : keyN ns = k
      · by_cases ck' : keyN ns = k'
        · rw [← ck, ← ck']
        · rw [if_pos ck] at hk
          rw [if_neg ck'] at hk'
          injection hk with hk; injection hk with hk1 _
          rw [← ck]
          exact hi2 _ _ _ _ _ (by rw [← hk1]; exact hf) hk'
      · by_cases ck' : keyN ns = k'
        · rw [if_neg ck] at hk
          rw [if_pos ck'] at hk'
          injection hk' with hk'; injection hk' with hk1 _
          rw [← ck']
          exact hi2 _ _ _ _ _ hk (by rw [← hk1]; exact hf)
        · rw [if_neg ck] at hk
          rw [if_neg ck'] at hk'
          exact hi2 k k' f x x' hk hk'
    · by_cases c5 : ns.getD 6 0 = 0
      · exact Or.inl c5
      · right
        have hb : by_ = false := by
          cases by_ with
          | false => rfl
          | true => exact absurd ⟨c5, rfl⟩ c4
        rw [hb] at hf
        rw [getD_low _ hl0]
        exact hi1 _ _ hf
/-- Where no bytes come. -/
theorem gi_plain {st : PS} {cg : Nat} (hG : GI st cg) (E : Ent) (p : Nat) (t : Int) : GI ⟨p, t, st.out ++ [E], st.grp⟩ (cg + 1) := by
  obtain ⟨hc, hgo, hi1, hi2⟩ := hG
  refine ⟨by rw [List.length_append, List.length_singleton]; exact Nat.succ_le_succ hc, fun x hx => ⟨(hgo x hx).1, by rw [List.length_append, List.length_singleton]; have := (hgo x hx).2; omega⟩, fun k f hf => ?_, hi2⟩
  have hl := (hgo _ (gfind_mem hf)).2
  show (List.getD (st.out ++ [E]) f e0).data = []
  rw [getD_low E hl]
  exact hi1 k f hf
end Go.Proofs.YtpghionmmlidnaaGreatDoor.Walks
namespace Go.Proofs.YtpghionmmlidnaaGreatDoor.Walks
open Go Go.RowKit Go.Maps Go.Proofs.YtpghionmmlidnaaGreatDoor.Aid Go.Proofs.YtpghionmmlidnaaGreatDoor.Pth Go.Proofs.YtpghionmmlidnaaGreatDoor.Own Go.Proofs.YtpghionmmlidnaaGreatDoorW.PrintWords

theorem kmap_map (l : List Ent) : kmap l = (l.map fun e => (e.path, e.kind)).foldl (fun (m : DataW Unit) q => m.put (.string q.1) (.lit (.int .i64 q.2))) (.map []) := by
  unfold kmap
  rw [List.foldl_map]
theorem kmap_data (l : List Ent) (i : Nat) (d : Str) (hi : i < l.length) : kmap (addData l i d) = kmap l := by
  rw [kmap_map, kmap_map]
  congr 1
  unfold addData
  rw [List.map_set]
  apply List.ext_getElem?
  intro j
  by_cases e : i = j
  · subst e
    rw [List.getElem?_set_self (by rw [List.length_map]; exact hi), List.getElem?_map, List.getElem?_eq_getElem hi, List.getD_eq_getElem?_getD, List.getElem?_eq_getElem hi]
    rfl
  · rw [List.getElem?_set_ne e]
section
variable {K : PK} {st : PS} {outV : Value} {es : List Ent3} {cg ck : Nat} {ow : Int} {u v : World}
/-- The budget has let bytes through. -/
theorem PX.paid (h : PX K st outV es cg ck ow u) (hK : K.Ok) {t o : Int} (hb : v.heap[K.gb]? = some (Bud.bud K.lim.entry K.lim.total K.lim.entries K.lim.path K.r (st.out.length : Int) t o)) (ho : Only (fun b => b = K.gb) u v) (ht : 0 ≤ t ∧ t ≤ K.lim.total) (hw : 0 ≤ o ∧ o ≤ K.lim.entry) : PX K { st with total := t } outV es cg ck o v := by
  obtain ⟨n1, n2, n3, n4, n5, n6⟩ := hK.ne
  have hl := hK.low
  exact ⟨ho.keeps h.par n1, hb, ownE_but h.own ho (fun b e e2 => by have := (ownE_lt h.own e).2; omega) (fun e he ad e1 h0 e2 => by have := (h.data_lt e he ad e1 h0).2; omega), h.map, h.nil,
    mapAny_only h.kin ho (Ne.symm n4), mapAny_only h.grp ho (Ne.symm n5), h.ckl, h.only.trans ho (fun b hb => Or.inr (by rw [hb]; exact hK.new.2.1)), Nat.le_trans h.siz ho.size, h.pos, h.cnt, ht, hw, h.pth⟩
/-- What the append of bytes onto an entry's leaves. -/
theorem appD_run (ty : TypeId) {W : World} {base g2 : Nat} {E : Ent} {A A9 : Option Addr} {c C9 n : Nat} {T : Str} (hT : T.length = n) (hn : n ≤ 1000000) (hE : EntAt W E A c) (hR : RdU W A9 T) (h0 : n = 0 ∨ E.data = [])
    (hnil : (E.data = [] ∧ (A, c) = ((none : Option Addr), 0)) ∨ (E.data ≠ [] ∧ ∃ k cap, (A, c) = (some (⟨k, 0, none⟩ : Addr), cap) ∧ base ≤ k)) (hb : base ≤ W.heap.size) (hg : g2 < W.heap.size) (hf : ∀ ad, A = some ad → 0 < E.data.length → ad.block ≠ g2) :
    ∃ A' c' w', (Builtin.append_ #[26, 26] ty #[.slice A E.data.length c, .slice A9 n C9]).run Tryz.prog W = .ok (.slice A' (E.data ++ T).length c') w' ∧ RdU w' A' (E.data ++ T) ∧ (E.data ++ T).length ≤ c' ∧ Only (fun _ => False) W w' ∧
      ((E.data ++ T = [] ∧ (A', c') = ((none : Option Addr), 0)) ∨ (E.data ++ T ≠ [] ∧ ∃ k cap, (A', c') = (some (⟨k, 0, none⟩ : Addr), cap) ∧ base ≤ k)) ∧ (∀ ad, A' = some ad → 0 < (E.data ++ T).length → ad.block ≠ g2) := by
  by_cases hn0 : n = 0
  · subst hn0
    obtain rfl : T = [] := List.eq_nil_of_length_eq_zero hT
    have hr : (Builtin.append_ #[26, 26] ty #[.slice A E.data.length c, .slice A9 0 C9]).run Tryz.prog W = .ok (.slice A E.data.length c) W := by
      obtain ⟨i, hi, _⟩ := OwnU.infoU_any
      have hl := hE.2
      cases A <;> cases A9 <;> simp [Builtin.append_, run_underlying Tryz.underlying26, sizeOf, typeInfo, hi, Builtin.lenOf, Builtin.firstCells, loadCells, loadCellsFrom, hl, storeCells]
    rw [List.append_nil]
    exact ⟨A, c, W, hr, hE.1, hE.2, Only.refl _ _, hnil, hf⟩
  · have hd : E.data = [] := h0.resolve_left hn0
    obtain ⟨_, hAc⟩ | ⟨h1, _⟩ := hnil
    · injection hAc with hA hc
      subst hA hc
      rw [hd, List.nil_append]
      obtain ⟨i, hi, hz, hsz, hby, hzs⟩ := OwnU.infoU_any
      obtain ⟨z, hz'⟩ := Option.isSome_iff_exists.1 hz
      rw [hz', Option.getD_some] at hzs
      subst hT
      obtain ⟨ad, rfl, hcell⟩ := hR (by rw [ints_len]; omega)
      rw [ints_len] at hcell
      obtain ⟨v1, w1, hr, hown, hgr, _, hat⟩ := run_append_own_at (P := Tryz.prog) W W.heap.size 26 ty 5 i z 1 1 Tryz.underlying26 hi hz' hsz hby hzs (by decide) (.slice none 0 0) 0 [] (World.ownsRow_nil W _ _ 1) ad T.length C9 (OwnU.flatU (ints T)) (by simp [OwnU.flatU, ints_len]) (fun j u hu => by
        have hj : j < T.length := by have := (List.getElem?_eq_some_iff.1 hu).1; simpa [OwnU.flatU, ints_len] using this
        rw [OwnU.flatU_get (by rw [ints_len]; exact hj)] at hu
        rw [hcell j hj]
        exact hu) (fun u hu => by
          obtain ⟨s, _, rfl⟩ := List.mem_map.1 hu
          rfl) (by unfold maxLen; omega) (by omega) (Nat.le_refl _)
      have hO : OwnU.OwnU W.heap.size w1 v1 (ints T) := by
        unfold OwnU.OwnU
        rw [ints_len]
        have := hown
        rwa [Nat.zero_add, List.nil_append] at this
      have hOn : Only (fun _ => False) W w1 := ⟨hgr.os, hgr.tape, hgr.output, hgr.size, fun k hk _ => hgr.block k hk (fun e2 => by cases e2)⟩
      rcases hO.2 with ⟨_, e0⟩ | ⟨g, cap, cur, rfl, hbb, hgb, hnn, _⟩
      · rw [ints_len] at e0; omega
      · have hgs : g = W.heap.size := by
          rcases hat with h6 | h6
          · cases h6
          · exact Option.some.inj h6
        subst hgs
        obtain ⟨A1, c1, e1, _, h1⟩ := OwnU.ownU_rd hO
        injection e1 with e1 e2 e3
        subst e1
        rw [ints_len] at hr hnn
        exact ⟨_, cap, w1, hr, h1, hnn, hOn, Or.inr ⟨fun e => by rw [e] at hn0; exact hn0 rfl, _, cap, rfl, hb⟩, fun ad' e _ => by cases e; exact fun e => by have e : W.heap.size = g2 := e; omega⟩
    · exact absurd hd h1
/-- Bytes have come to an entry. -/
theorem PX.datum {g2 cap i : Nat} {E : Ent} {A A' : Option Addr} {c c' : Nat} {T : Str} (h : PX K st (.slice (some ⟨g2, 0, none⟩) es.length cap) es cg ck ow u) (hK : K.Ok) (hi : es[i]? = some (E, A, c)) (ho : Only (fun _ => False) u v) (hd : RdU v A' (E.data ++ T)) (hc : (E.data ++ T).length ≤ c')
    (hnil : (E.data ++ T = [] ∧ (A', c') = ((none : Option Addr), 0)) ∨ (E.data ++ T ≠ [] ∧ ∃ k cap, (A', c') = (some (⟨k, 0, none⟩ : Addr), cap) ∧ K.base ≤ k)) (hf : ∀ ad, A' = some ad → 0 < (E.data ++ T).length → ad.block ≠ g2) :
    PX K { st with out := addData st.out i T } (.slice (some ⟨g2, 0, none⟩) es.length cap) (es.set i ({ E with data := E.data ++ T }, A', c')) cg ck ow (v.setCell ⟨g2, i * 8 + 7, none⟩ (.slice A' (E.data ++ T).length c')) := by
  have hil : i < es.length := (List.getElem?_eq_some_iff.1 hi).1
  have hlen : es.length = st.out.length := h.len
  have hv := h.step ho
  have hg2 : K.base ≤ g2 := (ownE_lt h.own (b := g2) rfl).2
  have hl := hK.low
  have hn := hK.new
  have hO := only_put v g2 (i * 8 + 7) (.slice A' (E.data ++ T).length c')
  have hEi : st.out.getD i e0 = E := by
    rw [← h.map, List.getD_eq_getElem?_getD, List.getElem?_map, hi]; rfl
  have hmap : (es.set i ({ E with data := E.data ++ T }, A', c')).map (·.1) = addData st.out i T := by
    unfold addData
    rw [List.map_set, h.map, hEi]
  have hol : (addData st.out i T).length = st.out.length := addData_len _ _ _
  refine ⟨hO.keeps hv.par (by omega), ?_, ?_, hmap, ?_, ?_, mapAny_only hv.grp hO (by omega), ?_, hv.only.trans hO (fun b hb => Or.inr (by omega)), Nat.le_trans hv.siz hO.size, h.pos, ?_, h.tot, h.own0, ?_⟩
  · show _ = some (Bud.bud _ _ _ _ _ (((addData st.out i T).length : Nat) : Int) _ _)
    rw [hol]
    exact hO.keeps hv.bud (by omega)
  · have := ownE_data (d := E.data ++ T) hv.own hi hd hc hf
    exact this
  · intro e he
    rcases List.mem_or_eq_of_mem_set he with h5 | h5
    · exact h.nil e h5
    · rw [h5]; exact hnil
  · show (v.setCell _ _).ownsMap _ _ _ _ _ (kmap (addData st.out i T))
    rw [kmap_data _ _ _ (by omega)]
    exact mapAny_only hv.kin hO (by omega)
  · show ck ≤ (addData st.out i T).length
    rw [hol]; exact h.ckl
  · show (addData st.out i T).length ≤ st.pos
    rw [hol]; exact h.cnt
  · intro F hF
    unfold addData at hF
    rcases List.mem_or_eq_of_mem_set hF with h5 | h5
    · exact h.pth F h5
    · rw [h5]
      have hm : st.out.getD i e0 ∈ st.out := by
        rw [List.getD_eq_getElem?_getD, List.getElem?_eq_getElem (by omega)]; exact List.getElem_mem _
      show (st.out.getD i e0).path.length ≤ 500000
      exact h.pth _ hm
end
end Go.Proofs.YtpghionmmlidnaaGreatDoor.Walks
