/- The law 'what is got hangs on all that was pushed, not on the pieces' answers true, whatever the bytes, the cuts and the sizes. -/
import Derived.Test.YtplabbnmongbaaaTold
import Derived.Test.YtplabbnmongbaaaOpenInts
import Derived.Deep.CutBlock
namespace Go.Proofs.Ytplabbnmongbaaa.Walks
open Go Go.RowKit Go.Proofs.Ytplabbnmongbaaa.Aid Go.ChangeShapes Go.WideShapes

/-- One feed has all of B, the other one its first 'at_' bytes; both stand at one place. -/
structure Two (g h : Nat) (B : List Int) (a k : Nat) (w0 wr : World) : Prop where
  f1 : FeedAt wr g B k false
  f2 : FeedAt wr h (B.take a) k false
  only : Only (fun b => b = g ∨ b = h) w0 wr
  le : a ≤ B.length
theorem bits_le {B : List Int} {a k : Nat} (ha : a ≤ B.length) : bitsOf (B.take a) k ≤ bitsOf B k := by unfold bitsOf; rw [List.length_take]; omega
theorem pkN_take {B : List Int} {a k : Nat} : ∀ i, k + i ≤ 8 * a → pkN (B.take a) k i = pkN B k i
  | 0, _ => rfl
  | i + 1, h => by
    unfold pkN
    rw [pkN_take i (by omega)]
    have : bitP (B.take a) (k + i) = bitP B (k + i) := by
      unfold bitP
      congr 2
      simp only [List.getD_eq_getElem?_getD, List.getElem?_take]
      rw [if_pos (by omega)]
    rw [this]
theorem peek_take {B : List Int} {a k : Nat} {n : Int} (ha : a ≤ B.length) (h1 : 1 ≤ n) (hn : n ≤ bitsOf (B.take a) k ∨ a = B.length) : peekV (B.take a) k n = peekV B k n := by
  rcases hn with hn | rfl
  · have hle := bits_le (k := k) ha
    unfold bitsOf at hn hle
    rw [List.length_take, Nat.min_eq_left ha] at hn
    unfold peekV
    split
    · rw [List.length_take, Nat.min_eq_left ha]
      have e1 : min n.toNat (8 * a - k) = n.toNat := by omega
      have e2 : min n.toNat (8 * B.length - k) = n.toNat := by omega
      rw [e1, e2, pkN_take _ (by omega)]
    · rfl
  · rw [List.take_length]
theorem FeedAt.ne {w : World} {g : Nat} {P : List Int} {k : Nat} {e : Bool} (h : FeedAt w g P k e) {b : Nat} {cs : Array Value} (hb : w.heap[b]? = some (.cells cs 5 (0, 0))) : b ≠ g := by
  obtain ⟨⟨A, c, hx, _⟩, _⟩ := h
  exact cells_ne hx hb (by decide)
theorem Two.below {g h : Nat} {B : List Int} {a k : Nat} {w w0 wr : World} (s : Two g h B a k w0 wr) (hb : Below w.heap.size w w0) (hg : w.heap.size ≤ g) (hh : w.heap.size ≤ h) : Below w.heap.size w wr :=
  ((Only.of_below hb (fun k => w.heap.size ≤ k)).trans s.only (fun k hk => .inl (by rcases hk with rfl | rfl <;> omega))).below (Nat.le_refl _) (fun _ hk => hk)
theorem RdK.at_ {q : IntKind} {w : World} {A : Option Addr} {l : List Int} (h : RdK q w A l) {j : Nat} (hj : j < l.length) : ∃ ad, A = some ad ∧ w.cell? (ad.add j) = some (.int q (l.getD j 0)) := by
  obtain ⟨ad, e, hc⟩ := h (by omega)
  exact ⟨ad, e, hc j hj⟩
theorem add_of_add (a : Addr) (i j : Nat) : (a.add i).add j = a.add (i + j) := by
  unfold Addr.add
  by_cases hi : i = 0 <;> by_cases hj : j = 0 <;> simp [hi, hj, Nat.add_assoc]
theorem piece_rd {w : World} {ad : Addr} {B : List Int} {a m : Nat} (h : RdK .u8 w (some ad) B) (hm : a + m ≤ B.length) : Rd w (some (ad.add a)) ((B.drop a).take m) := fun hl => by
  have e : ((B.drop a).take m).length = m := by rw [List.length_take, List.length_drop]; omega
  obtain ⟨ad', e', hc⟩ := h (by omega)
  injection e' with e'
  subst e'
  refine ⟨_, rfl, fun j hj => ?_⟩
  rw [e] at hj
  rw [add_of_add, hc _ (by omega)]
  congr 2
  simp only [List.getD_eq_getElem?_getD, List.getElem?_take, List.getElem?_drop, if_pos hj]
theorem take_more {B : List Int} {a m : Nat} : B.take a ++ (B.drop a).take m = B.take (a + m) := by rw [List.take_add]
theorem Two.piece {g h : Nat} (hne : h ≠ g) {B : List Int} {a m k : Nat} {w0 wr w' : World} (s : Two g h B a k w0 wr) (f : FeedAt w' h (B.take a ++ (B.drop a).take m) k false) (ho : Only (· = h) wr w') (hm : a + m ≤ B.length) : Two g h B (a + m) k w0 w' :=
  ⟨s.f1.only ho (fun e => hne e.symm) (fun b cs hb => s.f2.ne hb), by rw [← take_more]; exact f, s.only.trans ho (fun k hk => .inl (.inr hk)), hm⟩
theorem Two.drewN {g h : Nat} {B : List Int} {a k : Nat} {w0 wr : World} (s : Two g h B a k w0 wr) (n : Nat) : Two g h B a k w0 (wr.drewN n) := ⟨s.f1.drewN n, s.f2.drewN n, s.only.drewN n, s.le⟩
theorem Two.belowT {g h : Nat} {B : List Int} {a k : Nat} {w0 wr w' : World} (s : Two g h B a k w0 wr) (hb : Below wr.heap.size wr w') : Two g h B a k w0 w' :=
  have ho := Only.of_below hb (fun _ => False)
  ⟨s.f1.only ho id (fun _ _ _ => id), s.f2.only ho id (fun _ _ _ => id), s.only.trans ho (fun _ hk => hk.elim), s.le⟩
theorem Two.skips {g h : Nat} (hne : h ≠ g) {B : List Int} {a k k' : Nat} {w0 wr w1 w2 : World} (s : Two g h B a k w0 wr) (f1 : FeedAt w1 g B k' false) (o1 : Only (· = g) wr w1) (f2 : FeedAt w2 h (B.take a) k' false) (o2 : Only (· = h) w1 w2) : Two g h B a k' w0 w2 :=
  ⟨f1.only o2 (fun e => hne e.symm) (fun b cs hb => by have := (s.f2.only o1 (fun e => hne e) (fun b cs hb => s.f1.ne hb)); exact this.ne hb), f2, (s.only.trans o1 (fun k hk => .inl (.inl hk))).trans o2 (fun k hk => .inl (.inr hk)), s.le⟩
theorem skip_zero {P : List Int} {k : Nat} {n : Int} (h0 : 0 ≤ n) (h : n ≤ bitsOf P k) : skipC P k n = 0 ∧ skipK P k n = k + n.toNat := by
  have e : skipC P k n = 0 := by unfold skipC; rw [if_neg (by omega), if_neg (by omega)]
  exact ⟨e, by unfold skipK; rw [e, if_pos rfl]⟩
theorem used_at {w : World} {g : Nat} {P : List Int} {k : Nat} {e : Bool} (h : FeedAt w g P k e) : Calls Try.prog 11 #[.pointer (some ⟨g, 0, none⟩)] w fun x w' => x = .returned (.int .i64 (((k + 7) / 8 : Nat) : Int)) ∧ w = w' := (used_any h).mono fun _ _ hp => ⟨hp.1, hp.2.symm⟩
set_option maxRecDepth 100000 in
set_option maxHeartbeats 2000000 in
theorem pieces_any (w : World) (A0 : Option Addr) (B : List Int) (c0 : Nat) (A1 : Option Addr) (C : List Int) (c1 : Nat) (A2 : Option Addr) (Z : List Int) (c2 : Nat)
    (hB : RdK .u8 w A0 B) (hC : RdK .i64 w A1 C) (hZ : RdK .i64 w A2 Z) (bB : ∀ x ∈ B, 0 ≤ x ∧ x < 256) (l0 : B.length ≤ c0) (_m0 : c0 ≤ 9223372036854775807) (m1 : C.length ≤ 9223372036854775807) (_m2 : Z.length ≤ 9223372036854775807) (hs : B.length ≤ 60) :
    Calls Try.prog 3 #[.slice A0 B.length c0, .slice A1 C.length c1, .slice A2 Z.length c2] w fun x w' => x = .returned (.bool true) ∧ Below w.heap.size w w' := by
  have HB := Lib.hid hB
  have HC := Lib.hid hC
  have HZ := Lib.hid hZ
  have HY := Lib.hid bB
  clear hB hC hZ bB
  go_enter Try.func3, Try.ntmps3
  go_wp2_with fail
  go_at_call 6
  refine (new_at w).mono ?_
  rintro x w1 ⟨g, rfl, hg, HF, hbl⟩
  go_wp2_with fail
  go_at_call 6
  refine (new_at w1).mono ?_
  rintro x w2 ⟨gb, rfl, hh, HF2, hbl2⟩
  have hgl : g < w1.heap.size := by obtain ⟨⟨A, c, hx, _⟩, _⟩ := HF.out; exact Only.heap_lt hx
  have hgh : g < gb := by omega
  have HB2 := Lib.hid (hbl.trans (hbl2.mono hbl.size))
  have HF1 := Lib.hid (HF.out.only (Only.of_below hbl2 (fun _ => False)) id (fun _ _ _ => id))
  have hsz : w.heap.size ≤ w2.heap.size := HB2.out.size
  clear HF hbl hbl2 hh
  go_wp2_with fail
  go_at_call 7
  refine (push_at HF1 A0 B B.length c0 rfl (RdK.below HB.out HB2.out) HY.out (by simp; omega)).mono ?_
  rintro x w3 ⟨rfl, HF3, ho3⟩
  rw [List.nil_append] at HF3
  have hne : gb ≠ g := by omega
  have T0 := Lib.hid (Two.mk (a := 0) HF3.out (HF2.out.only ho3 (fun e => hne e) (fun b cs hb => HF1.out.ne hb)) (Only.refl _ _) (Nat.zero_le _))
  have HB3 := Lib.hid (((Only.of_below HB2.out (fun k => w.heap.size ≤ k)).trans ho3 (fun k hk => .inl (by omega))).below (Nat.le_refl _) (fun _ hk => hk))
  have hh : w.heap.size ≤ gb := by omega
  clear HF1 HF2 HF3 ho3 HB2 hsz hgl
  go_wp2_with fail
  go_loopw [9, 10, 11] (fun a b i wr => ∃ (at_ kk ii pos : Nat), a = .int .i64 (at_ : Int) ∧ b = .int .i64 (kk : Int) ∧ i = .int .i64 (ii : Int) ∧ ii ≤ 60 ∧ kk ≤ C.length ∧ Hid (Two g gb B at_ pos w3 wr)) (fun _ _ i _ => 60 - (intOf i).toNat)
  case atStart => exact ⟨0, 0, 0, 0, rfl, rfl, rfl, by omega, by omega, T0⟩
  case round =>
    obtain ⟨at_, kk, ii, pos, rfl, rfl, rfl, hii, hkk, HS⟩ := hrel
    clear T0
    have HBr := Lib.hid (HS.out.below HB3.out hg hh)
    have hat := HS.out.le
    by_cases d1 : ii < Z.length
    · by_cases d2 : ii < 60
      · obtain ⟨ad2, rfl, z0⟩ := RdK.at_ HZ.out d1
        have z1 := (HBr.out.cell (World.block_lt_of_cell? w _ z0)).trans z0
        clear z0
        generalize Z.getD ii 0 = zz at z1
        have az := and31_i64 zz
        obtain ⟨n0, hn0⟩ : ∃ n0, n0 = zz % 32 := ⟨_, rfl⟩
        rw [← hn0] at az
        have bn : 0 ≤ n0 ∧ n0 ≤ 31 := by omega
        clear hn0 HZ
        have d2' : decide ((ii : Int) < 60) = true := by simp; omega
        go_upto_block 2 with (fail)
        clear d2'
        go_cut [9, 10] from 29 to 130 (fun a b wx => ∃ (at_ kk : Nat), a = .int .i64 (at_ : Int) ∧ b = .int .i64 (kk : Int) ∧ kk ≤ C.length ∧ Hid (Two g gb B at_ pos w3 wx) ∧ (1 + n0 ≤ bitsOf (B.take at_) pos ∨ at_ = B.length))
        case first =>
          go_wp2_with fail
          go_loopw [9, 10] (fun a b wq => ∃ (at_ kk : Nat), a = .int .i64 (at_ : Int) ∧ b = .int .i64 (kk : Int) ∧ kk ≤ C.length ∧ Hid (Two g gb B at_ pos w3 wq)) (fun a _ _ => 60 - (intOf a).toNat)
          case atStart => exact ⟨at_, kk, rfl, rfl, hkk, HS⟩
          case round =>
            obtain ⟨a, q, rfl, rfl, hq, HT⟩ := hrel
            clear HS hkk hat z1 az HBr
            have hal := HT.out.le
            have HBq := Lib.hid (HT.out.below HB3.out hg hh)
            have CB := Lib.hid (bits_any HT.out.f2)
            by_cases e1 : bitsOf (B.take a) pos < 1 + n0
            · by_cases e2 : a < B.length
              · obtain ⟨ad0, rfl, _⟩ := RdK.at_ HB.out e2
                have hcap : ¬ c0 = a := by omega
                by_cases e3 : q < C.length
                · obtain ⟨ad1, rfl, y0⟩ := RdK.at_ HC.out e3
                  have y1 := (HBq.out.cell (World.block_lt_of_cell? w _ y0)).trans y0
                  clear y0
                  generalize C.getD q 0 = cc at y1
                  have ac := and15_i64 cc
                  obtain ⟨x0, hx0⟩ : ∃ x0, x0 = cc % 16 := ⟨_, rfl⟩
                  rw [← hx0] at ac
                  have bx : 0 ≤ x0 ∧ x0 ≤ 15 := by omega
                  clear hx0
                  go_wp2_with fail
                  go_at_call 8
                  refine CB.out.mono ?_
                  rintro x w' ⟨rfl, mm, rfl⟩
                  go_wp2_with fail
                  · have hM : ((a : Int) + ((B.length : Int) - a)).toNat - a = ((B.drop a).take (B.length - a)).length := by rw [List.length_take, List.length_drop]; omega
                    refine (push_at (Lib.hid (HT.out.f2.drewN mm)) (some (ad0.add a)) ((B.drop a).take (B.length - a)) _ (c0 - a) hM (piece_rd (RdK.below HB.out (Below.trans HBq.out ⟨rfl, rfl, rfl, Nat.le_refl _, fun _ _ => rfl⟩)) (by omega)) (fun c hc => HY.out c (List.mem_of_mem_drop (List.mem_of_mem_take hc))) (by simp; omega)).mono ?_
                    rintro x wp ⟨rfl, HFp, hop⟩
                    clear hM y1 ac
                    go_wp2_with fail
                    go_roundw
                    case rel => exact ⟨a + (B.length - a), q + 1, congrArg (Value.int .i64) (by omega), by go_num, by omega, Lib.hid ((HT.out.drewN mm).piece hne HFp.out hop (by omega))⟩
                    case measure => simp [intOf]; omega
                  · have hM : ((a : Int) + (1 + x0)).toNat - a = ((B.drop a).take (1 + x0).toNat).length := by rw [List.length_take, List.length_drop]; omega
                    refine (push_at (Lib.hid (HT.out.f2.drewN mm)) (some (ad0.add a)) ((B.drop a).take (1 + x0).toNat) _ (c0 - a) hM (piece_rd (RdK.below HB.out (Below.trans HBq.out ⟨rfl, rfl, rfl, Nat.le_refl _, fun _ _ => rfl⟩)) (by omega)) (fun c hc => HY.out c (List.mem_of_mem_drop (List.mem_of_mem_take hc))) (by simp; omega)).mono ?_
                    rintro x wp ⟨rfl, HFp, hop⟩
                    clear hM y1 ac
                    go_wp2_with fail
                    go_roundw
                    case rel => exact ⟨a + (1 + x0).toNat, q + 1, congrArg (Value.int .i64) (by omega), by go_num, by omega, Lib.hid ((HT.out.drewN mm).piece hne HFp.out hop (by omega))⟩
                    case measure => simp [intOf]; omega
                · go_wp2_with fail
                  go_at_call 8
                  refine CB.out.mono ?_
                  rintro x w' ⟨rfl, mm, rfl⟩
                  go_wp2_with fail
                  go_at_call 7
                  refine (push_at (Lib.hid (HT.out.f2.drewN mm)) (some (ad0.add a)) ((B.drop a).take 1) _ (c0 - a) ?hM (piece_rd (RdK.below HB.out (Below.trans HBq.out ⟨rfl, rfl, rfl, Nat.le_refl _, fun _ _ => rfl⟩)) (by omega)) (fun c hc => HY.out c (List.mem_of_mem_drop (List.mem_of_mem_take hc))) (by simp; omega)).mono ?_
                  case hM => rw [List.length_take, List.length_drop]; omega
                  rintro x wp ⟨rfl, HFp, hop⟩
                  go_wp2_with fail
                  go_roundw
                  case rel => exact ⟨a + 1, q, congrArg (Value.int .i64) (by omega), rfl, by omega, Lib.hid ((HT.out.drewN mm).piece hne HFp.out hop (by omega))⟩
                  case measure => simp [intOf]; omega
              · have e2' : B.length ≤ a := by omega
                clear e2
                go_wp2_with fail
                go_at_call 8
                refine CB.out.mono ?_
                rintro x w' ⟨rfl, mm, rfl⟩
                go_wp2_with fail
                go_meet
                exact ⟨a, q, rfl, rfl, hq, Lib.hid (HT.out.drewN mm), .inr (by omega)⟩
            · have e1' : decide (bitsOf (B.take a) pos < 1 + n0) = false := by simpa using e1
              have e1'' := Lib.hid e1
              clear e1
              go_wp2_with fail
              go_at_call 8
              refine CB.out.mono ?_
              rintro x w' ⟨rfl, mm, rfl⟩
              go_wp2_with fail
              go_meet
              exact ⟨a, q, rfl, rfl, hq, Lib.hid (HT.out.drewN mm), .inl (by have := e1''.out; omega)⟩
        case rest =>
          obtain ⟨a, q, rfl, rfl, hq, HT, hor⟩ := hcut
          clear HS hkk hat z1 az HBr
          have hal := HT.out.le
          have hbl := bits_le (k := pos) hal
          have CB1 := Lib.hid (bits_any HT.out.f1)
          by_cases e1 : bitsOf B pos < 1 + n0
          · have ha : a = B.length := by omega
            subst ha
            clear hor hbl hal
            go_wp2_with fail
            go_at_call 8
            refine CB1.out.mono ?_
            rintro x w' ⟨rfl, mm, rfl⟩
            go_wp2_with fail
            go_at_call 5
            refine (told_any _).mono ?_
            rintro x w4 ⟨rfl, hb4⟩
            have HT4 := Lib.hid ((HT.out.drewN mm).belowT hb4)
            have F2 : Hid (FeedAt w4 gb B pos false) := Lib.hid (by have := HT4.out.f2; rwa [List.take_length] at this)
            go_wp2_with fail
            go_at_call 8
            refine (bits_any F2.out).mono ?_
            rintro x w' ⟨rfl, mm2, rfl⟩
            go_wp2_with fail
            go_at_call 8
            refine (bits_any (HT4.out.f1.drewN _)).mono ?_
            rintro x w' ⟨rfl, mm3, rfl⟩
            go_wp2_with fail
            go_at_call 9
            refine (peek_any (HT4.out.f1.drewN _) (1 + n0)).mono ?_
            rintro x w' ⟨rfl, mm4, rfl⟩
            go_wp2_with fail
            go_at_call 9
            refine (peek_any (F2.out.drewN _) (1 + n0)).mono ?_
            rintro x w' ⟨rfl, mm5, rfl⟩
            go_wp2_with fail
            go_ret
            exact ⟨rfl, (HT4.out.drewN _).below HB3.out hg hh⟩
          · have e1' : decide (bitsOf B pos < 1 + n0) = false := by simpa using e1
            have hn2 : 1 + n0 ≤ bitsOf (B.take a) pos := by
              rcases hor with hh | rfl
              · exact hh
              · rw [List.take_length]; omega
            have hpk := peek_take (k := pos) (n := 1 + n0) hal (by omega) (.inl hn2)
            have HPK := Lib.hid hpk
            obtain ⟨s1, s2⟩ := skip_zero (P := B) (k := pos) (n := 1 + n0) (by omega) (by omega)
            obtain ⟨s3, s4⟩ := skip_zero (P := B.take a) (k := pos) (n := 1 + n0) (by omega) hn2
            have S1 := Lib.hid s1
            have S2 := Lib.hid s2
            have S3 := Lib.hid s3
            have S4 := Lib.hid s4
            clear hpk s1 s2 s3 s4 hor hbl e1 hn2
            go_wp2_with fail
            go_at_call 8
            refine CB1.out.mono ?_
            rintro x w' ⟨rfl, mm, rfl⟩
            go_wp2_with fail
            go_at_call 9
            refine (peek_any (HT.out.f1.drewN _) (1 + n0)).mono ?_
            rintro x w' ⟨rfl, mm2, rfl⟩
            go_wp2_with fail
            go_at_call 9
            refine (peek_at (Lib.hid (HT.out.f2.drewN _)) (1 + n0) _ HPK.out).mono ?_
            rintro x w' ⟨rfl, mm3, rfl⟩
            go_wp2_with fail
            go_at_call 10
            refine (skip_at (Lib.hid (HT.out.f1.drewN _)) (1 + n0) 0 _ S1.out S2.out).mono ?_
            rintro x w4 ⟨rfl, HF4, ho4⟩
            have G2 := Lib.hid ((HT.out.f2.only ho4.undrew (fun e => hne e) (fun b cs hb => HT.out.f1.ne hb)))
            go_wp2_with fail
            go_at_call 10
            refine (skip_at G2 (1 + n0) 0 _ S3.out S4.out).mono ?_
            rintro x w5 ⟨rfl, HF5, ho5⟩
            have HT5 := Lib.hid (HT.out.skips hne HF4.out ho4.undrew HF5.out ho5)
            go_wp2_with fail
            go_at_call 11
            refine (used_at HT5.out.f1).mono ?_
            rintro x w6 ⟨rfl, rfl⟩
            go_wp2_with fail
            go_at_call 11
            refine (used_at HT5.out.f2).mono ?_
            rintro x w6 ⟨rfl, rfl⟩
            go_wp2_with fail
            go_roundw
            case rel => exact ⟨a, q, ii + 1, _, rfl, rfl, by go_num, by omega, hq, HT5⟩
            case measure => simp [intOf]; omega
      · have d2' : decide ((ii : Int) < 60) = false := by simp; omega
        clear d2
        go_wp2_with fail
        go_at_call 5
        refine (told_any _).mono ?_
        rintro x w4 ⟨rfl, hb4⟩
        go_wp2_with fail
        go_ret
        exact ⟨rfl, HBr.out.trans (hb4.mono HBr.out.size)⟩
    · have d1' : Z.length ≤ ii := by omega
      clear d1
      go_wp2_with fail
      go_at_call 5
      refine (told_any _).mono ?_
      rintro x w4 ⟨rfl, hb4⟩
      go_wp2_with fail
      go_ret
      exact ⟨rfl, HBr.out.trans (hb4.mono HBr.out.size)⟩
theorem u8_bd {x : Int} (h : (Lit.int .u8 x).wf = true) : 0 ≤ x ∧ x < 256 := u8_b h
theorem lawPieces {H : Type} {enc : TypeId × Value → H} {W : World} {base : Nat} {v0 v1 v2 : Value} {d0 d1 d2 : DataW H} {p0 p1 p2 : List MemPlace} {ts : List TypeId} {ds : List (DataW H)}
    (ov0 : Value.okWide Try.prog W .any base 22 v0) (k0 : DataW.Trod enc Try.prog W 0 (fun _ => true) true 22 v0 d0 p0)
    (ov1 : Value.okWide Try.prog W .any base 23 v1) (k1 : DataW.Trod enc Try.prog W 0 (fun _ => true) true 23 v1 d1 p1)
    (ov2 : Value.okWide Try.prog W .any base 23 v2) (k2 : DataW.Trod enc Try.prog W 0 (fun _ => true) true 23 v2 d2 p2)
    (_ : (DataW.weightsEach Try.prog ts ds).all (· ≤ reachBytes) = true) :
    Calls Try.prog 3 #[v0, v1, v2] W fun e w' => e = .returned (.bool true) ∧ Below W.heap.size W w' := by
  obtain ⟨A0, c0, B, rfl, l0, m0, hB, wB⟩ := open_nums Try.underlying22 Try.underlying5 (by kernel_rfl) ov0 k0
  obtain ⟨A1, c1, C, rfl, l1, m1, hC, _⟩ := open_nums Try.underlying23 Try.underlying3 (by kernel_rfl) ov1 k1
  obtain ⟨A2, c2, Z, rfl, l2, m2, hZ, _⟩ := open_nums Try.underlying23 Try.underlying3 (by kernel_rfl) ov2 k2
  by_cases hs : B.length ≤ 60
  · exact pieces_any W A0 B c0 A1 C c1 A2 Z c2 hB hC hZ (fun x hx => u8_b (wB x hx)) l0 m0 (by omega) (by omega) hs
  · have hs' : decide ((B.length : Int) > 60) = true := by simp; omega
    have bl : B.length ≤ 9223372036854775807 := by omega
    clear k0 k1 k2 ov0 ov1 ov2
    go_enter Try.func3, Try.ntmps3
    go_wp2_with fail
    go_at_call 5
    refine (told_any _).mono ?_
    rintro x w4 ⟨rfl, hb4⟩
    go_wp2_with fail
    go_ret
    exact ⟨rfl, hb4⟩
end Go.Proofs.Ytplabbnmongbaaa.Walks
