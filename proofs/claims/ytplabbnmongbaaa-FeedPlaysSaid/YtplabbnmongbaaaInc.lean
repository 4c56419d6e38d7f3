/- A slice of bytes of the call's own, told by its block; what stays when it is written to beside a feed. -/
import Derived.Test.YtplabbnmongbaaaTxt
import Derived.Test.YtplabbnmongbaaaTak
namespace Go.Proofs.Ytplabbnmongbaaa.Walks
open Go Go.RowKit Go.Proofs.Ytplabbnmongbaaa.Aid Go.Proofs.Ytplabbnmongbaaa.Own Go.Proofs.YtplabbnmongbaaaW.PrintWords

def Blk (u : World) (gb : Nat) (l : List Int) : Prop := ∃ cs, u.heap[gb]? = some (.cells cs 5 (0, 0)) ∧ ∀ j, j < l.length → cs[j]? = some (.int .u8 (l.getD j 0))
theorem own_blk {base : Nat} {w : World} {v : Value} {l : List Int} (h : Own.Own base w v l) : ∃ A c, v = .slice A l.length c ∧ RdK .u8 w A l ∧ (0 < l.length → ∃ gb, A = some ⟨gb, 0, none⟩ ∧ base ≤ gb ∧ Blk w gb l) := by
  obtain ⟨A, c, e, hR⟩ := h.rd
  refine ⟨A, c, e, hR, fun h0 => ?_⟩
  rcases (Kd.own_of_R h).2 with ⟨_, hz⟩ | ⟨g, cap, cur, hv, hb, hg, _, _, _, _⟩
  · omega
  · rw [hv] at e
    injection e with e1 _ _
    refine ⟨g, e1.symm, hb, cur, hg, fun j hj => ?_⟩
    rw [hv] at h
    have := h.cell hj
    rw [Joins.cell_of_block hg] at this
    exact this
theorem Blk.cell {u : World} {gb : Nat} {l : List Int} (h : Blk u gb l) {j : Nat} (hj : j < l.length) : u.cell? ⟨gb, j, none⟩ = some (.int .u8 (l.getD j 0)) := by
  obtain ⟨cs, hb, hc⟩ := h
  rw [Joins.cell_of_block hb]
  exact hc j hj
theorem Blk.free {u : World} {gb : Nat} {l : List Int} (h : Blk u gb l) (j : Nat) : u.frozen? ⟨gb, j, none⟩ = false := by
  obtain ⟨cs, hb, _⟩ := h
  exact Joins.unfrozen_of_block hb j
theorem Blk.put {u : World} {gb : Nat} {l : List Int} (h : Blk u gb l) (i : Nat) (x : Int) : Blk (u.setCell ⟨gb, i, none⟩ (.int .u8 x)) gb (l.set i x) := by
  obtain ⟨cs, hb, hc⟩ := h
  refine ⟨_, Joins.block_setCell hb _, fun j hj => ?_⟩
  rw [List.length_set] at hj
  rw [Array.getElem?_setIfInBounds]
  by_cases e : i = j
  · subst e
    have : i < cs.size := by
      have := hc i hj
      exact (Array.getElem?_eq_some_iff.1 this).1
    rw [if_pos rfl, if_pos this, List.getD_eq_getElem?_getD, List.getElem?_set_self hj]
    rfl
  · rw [if_neg e, hc j hj, List.getD_eq_getElem?_getD, List.getD_eq_getElem?_getD, List.getElem?_set_ne e]
theorem Blk.keep {S : Nat → Prop} {u u' : World} {gb : Nat} {l : List Int} (h : Blk u gb l) (ho : Only S u u') (hs : ¬ S gb) : Blk u' gb l := by
  obtain ⟨cs, hb, hc⟩ := h
  exact ⟨cs, ho.keeps hb hs, hc⟩
theorem FeedAt.ne' {w : World} {g : Nat} {P : List Int} {k : Nat} {e : Bool} (h : FeedAt w g P k e) {b : Nat} {cs : Array Value} (hb : w.heap[b]? = some (.cells cs 5 (0, 0))) : b ≠ g := by
  obtain ⟨⟨A, c, hx, _⟩, _⟩ := h
  exact cells_ne hx hb (by decide)
/-- While the bytes that were handed in are turned: the feed, the op's block and the slice. -/
structure Inc (g h n : Nat) (P : List Int) (k : Nat) (e : Bool) (cs : Array Value) (A : Option Addr) (w0 : World) (l : List Int) (u : World) : Prop where
  len : l.length = n
  feed : FeedAt u g P k e
  op : u.heap[h]? = some (.cells cs 36 (0, 0))
  only : Only (· = g) w0 u
  own : 0 < n → ∃ gb, A = some ⟨gb, 0, none⟩ ∧ w0.heap.size ≤ gb ∧ Blk u gb l ∧ Far u g gb
theorem inc_start {g h k : Nat} {P li : List Int} {e : Bool} {cs : Array Value} {A : Option Addr} {w0 u2 w4 : World} (hf0 : FeedAt w0 g P k e) (hop : w0.heap[h]? = some (.cells cs 36 (0, 0))) (hB : Below w0.heap.size w0 u2)
    (hA : 0 < li.length → ∃ gb, A = some ⟨gb, 0, none⟩ ∧ w0.heap.size ≤ gb ∧ Blk u2 gb li)
    (hf4 : FeedAt w4 g (if e then P else P ++ li) k e) (ho4 : Only (· = g) u2 w4) (hfar : e = false → ∀ b, b < u2.heap.size → Far w4 g b) (hsame : e = true → w4 = u2) :
    Inc g h li.length (if e then P else P ++ li) k e cs A w0 li w4 := by
  have hg : g < w0.heap.size := by obtain ⟨⟨_, _, hx, _⟩, _⟩ := hf0; exact Only.heap_lt hx
  have hne : h ≠ g := by
    obtain ⟨⟨_, _, hx, _⟩, _⟩ := hf0
    exact cells_ne hx hop (by decide)
  have ho : Only (· = g) w0 w4 := (Only.of_below hB (· = g)).trans' ho4
  refine ⟨rfl, hf4, ho.keeps hop hne, ho, fun h0 => ?_⟩
  obtain ⟨gb, e1, hb, hk⟩ := hA h0
  have hgb : gb < u2.heap.size := by obtain ⟨_, hx, _⟩ := hk; exact Only.heap_lt hx
  refine ⟨gb, e1, hb, hk.keep ho4 (by omega), ?_⟩
  cases he : e with
  | false => exact hfar he gb hgb
  | true =>
    rw [hsame he]
    intro A' n' c' x1 x2 x3 hq hn a ha
    have hw0 : w0.heap[g]? = some (.cells #[.slice A' n' c', x1, x2, x3] 44 (0, 0)) := by rw [← hB.block g hg]; exact hq
    obtain ⟨⟨A0, cap, hx, _, hh⟩, _⟩ := hf0
    rw [hx] at hw0
    simp only [Option.some.injEq, Obj.cells.injEq] at hw0
    have h1 := congrArg (fun z => z[0]?) hw0.1
    simp at h1
    obtain ⟨h1, h2, h3⟩ := h1
    obtain ⟨b, o, cs', e3, hblk, _⟩ := hh (by rw [List.length_drop]; omega)
    have hlt := Only.heap_lt hblk
    rw [h1, ha] at e3
    injection e3 with e3
    rw [e3]
    show b ≠ gb
    omega
theorem Inc.put {g h n k gb : Nat} {P : List Int} {e : Bool} {cs : Array Value} {w0 u : World} {l : List Int} (s : Inc g h n P k e cs (some ⟨gb, 0, none⟩) w0 l u) (h0 : 0 < n) (i : Nat) (x : Int) :
    Inc g h n P k e cs (some ⟨gb, 0, none⟩) w0 (l.set i x) (u.setCell ⟨gb, i, none⟩ (.int .u8 x)) := by
  obtain ⟨gb', e1, hb, hk, hfar⟩ := s.own h0
  injection e1 with e1
  injection e1 with e1 _ _
  subst e1
  obtain ⟨cs5, h5, _⟩ := id hk
  have hgn : gb ≠ g := s.feed.ne' h5
  have ho : Only (· = gb) u (u.setCell ⟨gb, i, none⟩ (.int .u8 x)) := (Only.refl (· = gb) u).setCell (S := (· = gb)) (p := ⟨gb, i, none⟩) (Or.inl rfl) _
  have hhn : h ≠ gb := fun e => by
    subst e
    have := s.op
    rw [h5] at this
    injection this with this
    injection this with _ ht
    exact absurd ht (by decide)
  refine ⟨by rw [List.length_set]; exact s.len, ?_, ho.keeps s.op hhn, s.only.trans ho (fun k hk => .inr (by omega)), fun _ => ⟨gb, rfl, hb, hk.put i x, ?_⟩⟩
  · obtain ⟨⟨A, cap, hx, hc, hh⟩, h4, h6, h7⟩ := s.feed
    refine ⟨⟨A, cap, ho.keeps hx (fun e => hgn e.symm), hc, fun hl => ?_⟩, h4, h6, h7⟩
    obtain ⟨b, o, cs', e3, hblk, hcs⟩ := hh hl
    have := hfar _ _ _ _ _ _ hx hl _ e3
    exact ⟨b, o, cs', e3, ho.keeps hblk this, hcs⟩
  · intro A' n' c' x1 x2 x3 hq hn a ha
    refine hfar A' n' c' x1 x2 x3 ?_ hn a ha
    rw [← hq]
    exact (Below.heap_setCell u ⟨gb, i, none⟩ _ _ (fun e => hgn e.symm)).symm
end Go.Proofs.Ytplabbnmongbaaa.Walks
