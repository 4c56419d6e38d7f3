/- Contract of stevedorelaw20.Great. -/
import Derived.Test.YtpghionmmlidnaaGreatDoorRSame
import Derived.Test.YtpghionmmlidnaaGreatDoorOpen
namespace Go.Proofs.YtpghionmmlidnaaGreatDoor.Walks
open Go Go.RowKit Go.Proofs.YtpghionmmlidnaaGreatDoor.Aid Go.Proofs.YtpghionmmlidnaaGreatDoor.Pth Go.Proofs.YtpghionmmlidnaaGreatDoor.Own Go.Proofs.YtpghionmmlidnaaGreatDoorW.PrintWords

/-- An entry as it may come in. -/
structure EIn (E : Ent) : Prop where
  kind : -9223372036854775808 ≤ E.kind ∧ E.kind ≤ 9223372036854775807
  mode : -9223372036854775808 ≤ E.mode ∧ E.mode ≤ 9223372036854775807
  uid : -9223372036854775808 ≤ E.uid ∧ E.uid ≤ 9223372036854775807
  gid : -9223372036854775808 ≤ E.gid ∧ E.gid ≤ 9223372036854775807
  path : E.path.length ≤ 9223372036854775807
  target : E.target.length ≤ 9223372036854775807
  data : E.data.length ≤ 9223372036854775807
def greatE (E : Ent) : Bool := decide (E.path.length > 5000) || (decide (E.target.length > 5000) || decide (E.data.length > 1000))
def greatL (l : List Ent) : Bool := decide (l.length > 12) || l.any greatE
theorem great_many {l : List Ent} (h : l.length > 12) : greatL l = true := by unfold greatL; rw [decide_eq_true h]; rfl
theorem great_bad {l : List Ent} {i : Nat} (hi : i < l.length) (h : greatE (l.getD i e0) = true) : greatL l = true := by
  unfold greatL
  rw [Bool.or_eq_true, List.any_eq_true]
  right
  refine ⟨_, ?_, h⟩
  rw [List.getD_eq_getElem?_getD, List.getElem?_eq_getElem hi]
  exact List.getElem_mem hi
theorem great_all {l : List Ent} (hl : l.length ≤ 12) (h : ∀ i, i < l.length → greatE (l.getD i e0) = false) : greatL l = false := by
  unfold greatL
  rw [decide_eq_false (by omega), Bool.false_or, List.any_eq_false]
  intro E hE
  obtain ⟨i, hi, e⟩ := List.mem_iff_getElem.1 hE
  have := h i hi
  rw [List.getD_eq_getElem?_getD, List.getElem?_eq_getElem hi] at this
  rw [← e]
  exact (by rw [show greatE l[i] = false from this]; exact Bool.false_ne_true)
theorem EOk.of_small {l : List Ent} (h : greatL l = false) : l.length ≤ 12 ∧ ∀ E ∈ l, E.path.length ≤ 5000 ∧ E.target.length ≤ 5000 ∧ E.data.length ≤ 1000 := by
  unfold greatL at h
  rw [Bool.or_eq_false_iff, decide_eq_false_iff_not, List.any_eq_false] at h
  refine ⟨by omega, fun E hE => ?_⟩
  have := h.2 E hE
  rw [Bool.not_eq_true] at this
  unfold greatE at this
  rw [Bool.or_eq_false_iff, Bool.or_eq_false_iff, decide_eq_false_iff_not, decide_eq_false_iff_not, decide_eq_false_iff_not] at this
  omega
theorem small_ok {l : List Ent} (h : greatL l = false) (hI : ∀ E ∈ l, EIn E) : EsOk l := fun E hE => by
  obtain ⟨h1, h2, h3⟩ := (EOk.of_small h).2 E hE
  exact ⟨⟨by omega, by omega, by omega⟩, (hI E hE).kind⟩
set_option maxRecDepth 100000 in
set_option maxHeartbeats 4000000 in
theorem great_any {w : World} {A : Option Addr} {l : List Ent} {n c : Nat} {M : Nat → Option Addr × Nat} (hn : l.length = n) (hl : n ≤ 9223372036854775807) (hR : RdE w A l M) (hI : ∀ E ∈ l, EIn E) :
    Calls Tryz.prog 9 #[.slice A n c] w (fun x w' => x = .returned (.bool (greatL l)) ∧ w' = w) := by
  have HN := Lib.hid hn
  have HR := Lib.hid hR
  have HI := Lib.hid hI
  by_cases q : n ≤ 12
  · have d1 : decide ((n : Int) > 12) = false := decide_eq_false (by omega)
    have d1' : decide (12 < n) = false := decide_eq_false (by omega)
    clear hn hl hR hI
    go_enter Tryz.func9, Tryz.ntmps9
    go_wp2_with fail
    go_loopw [3] (fun v3 u => ∃ i : Nat, v3 = .int .i64 (i : Int) ∧ i ≤ n ∧ u = w ∧ Hid (∀ j, j < i → greatE (l.getD j e0) = false)) (fun i _ => n - (intOf i).toNat)
    case atStart => exact ⟨0, rfl, by omega, rfl, Lib.hid (fun j h => absurd h (by omega))⟩
    case round =>
      obtain ⟨i, rfl, hi, rfl, HAll⟩ := hrel
      by_cases ci : i < n
      · have e1 : decide ((i : Int) < (n : Int)) = true := decide_eq_true (by omega)
        have e1' : decide (i < n) = true := decide_eq_true ci
        have e2 : (i : Int) < (n : Int) := by omega
        have hil : i < l.length := by rw [HN.out]; exact ci
        obtain ⟨ad, rfl, hat, hen⟩ := HR.out.at hil
        have hEI : EIn (l.getD i e0) := HI.out _ (by rw [List.getD_eq_getElem?_getD, List.getElem?_eq_getElem hil]; exact List.getElem_mem hil)
        have HGo := Lib.hid (fun (h : greatE (l.getD i e0) = false) (j : Nat) (hj : j < i + 1) => show greatE (l.getD j e0) = false from by
          by_cases e : j = i
          · rw [e]; exact h
          · exact HAll.out j (by omega))
        have HBad := Lib.hid (fun (h : greatE (l.getD i e0) = true) => great_bad hil h)
        obtain ⟨E, hE⟩ : ∃ E, l.getD i e0 = E := ⟨_, rfl⟩
        obtain ⟨B1, hB1⟩ : ∃ B1, (M i).1 = B1 := ⟨_, rfl⟩
        obtain ⟨k1, hk1⟩ : ∃ k1, (M i).2 = k1 := ⟨_, rfl⟩
        rw [hE, hB1, hk1] at hat
        rw [hE] at HGo HBad hEI
        have x0 : wr.cell? (ad.add (i * 8)) = some (.string (B E.path)) := by have := hat 0 _ rfl; rwa [show (ad.add (i * 8)).add 0 = ad.add (i * 8) from by rw [add_add]; rfl] at this
        have x6 : wr.cell? ⟨(ad.add (i * 8)).block, (ad.add (i * 8)).off + 6, none⟩ = some (.string (B E.target)) := by have := hat 6 _ rfl; rwa [add_add, Aid.add_field _ _ _ (by decide)] at this
        have x7 : wr.cell? ⟨(ad.add (i * 8)).block, (ad.add (i * 8)).off + 7, none⟩ = some (.slice B1 E.data.length k1) := by have := hat 7 _ rfl; rwa [add_add, Aid.add_field _ _ _ (by decide)] at this
        have hp := hEI.path
        have ht := hEI.target
        have hd := hEI.data
        have s0 : (B E.path).size = E.path.length := B_size _
        have s6 : (B E.target).size = E.target.length := B_size _
        obtain ⟨S0, hS0⟩ : ∃ S0, B E.path = S0 := ⟨_, rfl⟩
        obtain ⟨S6, hS6⟩ : ∃ S6, B E.target = S6 := ⟨_, rfl⟩
        obtain ⟨n7, hn7⟩ : ∃ n7, E.data.length = n7 := ⟨_, rfl⟩
        have HG : greatE E = (decide (S0.size > 5000) || (decide (S6.size > 5000) || decide (n7 > 1000))) := by unfold greatE; rw [← s0, ← s6, hn7, hS0, hS6]
        rw [hS0] at x0 s0
        rw [hS6] at x6 s6
        rw [hn7] at x7 hd
        rw [← s0] at hp
        rw [← s6] at ht
        obtain ⟨b0, hb0⟩ : ∃ b0 : Bool, decide (S0.size > 5000) = b0 := ⟨_, rfl⟩
        obtain ⟨b6, hb6⟩ : ∃ b6 : Bool, decide (S6.size > 5000) = b6 := ⟨_, rfl⟩
        obtain ⟨b7, hb7⟩ : ∃ b7 : Bool, decide (n7 > 1000) = b7 := ⟨_, rfl⟩
        have t0 : decide ((S0.size : Int) > 5000) = b0 := by rw [← hb0]; exact decide_eq_decide.2 (by omega)
        have t6 : decide ((S6.size : Int) > 5000) = b6 := by rw [← hb6]; exact decide_eq_decide.2 (by omega)
        have t7 : decide ((n7 : Int) > 1000) = b7 := by rw [← hb7]; exact decide_eq_decide.2 (by omega)
        rw [hb0, hb6, hb7] at HG
        replace HG := Lib.hid HG
        clear hE hB1 hk1 hat hen HAll HR hEI s0 s6 hS0 hS6 hn7 hb0 hb6 hb7 hil
        rcases wayT b0 (wayT b6 (ways b7)) with rfl | ⟨rfl, rfl | ⟨rfl, rfl | rfl⟩⟩
        · have HR0 := Lib.hid (HBad.out HG.out)
          go_wp2_with fail
          go_ret
          exact ⟨by rw [HR0.out]; rfl, rfl⟩
        · have HR0 := Lib.hid (HBad.out HG.out)
          go_wp2_with fail
          go_ret
          exact ⟨by rw [HR0.out]; rfl, rfl⟩
        · have HGo2 := Lib.hid (HGo.out HG.out)
          go_wp2_with fail
          exact ⟨⟨i + 1, by simp, by omega, trivial, HGo2⟩, by simp [intOf]; omega⟩
        · have HR0 := Lib.hid (HBad.out HG.out)
          go_wp2_with fail
          go_ret
          exact ⟨by rw [HR0.out]; rfl, rfl⟩
      · have e1 : decide ((i : Int) < (n : Int)) = false := decide_eq_false (by omega)
        have e1' : decide (i < n) = false := decide_eq_false ci
        obtain rfl : i = n := by omega
        have HR0 := Lib.hid (great_all (by rw [HN.out]; omega) (fun j hj => HAll.out j (by rw [← HN.out]; exact hj)))
        go_wp2_with fail
        go_ret
        exact ⟨by rw [HR0.out]; rfl, rfl⟩
  · have HR0 := Lib.hid (great_many (l := l) (by rw [hn]; omega))
    have d1 : decide ((n : Int) > 12) = true := decide_eq_true (by omega)
    have d1' : decide (12 < n) = true := decide_eq_true (by omega)
    clear q hn hR hI
    go_enter Tryz.func9, Tryz.ntmps9
    go_wp2_with fail
    go_ret
    exact ⟨by rw [HR0.out]; rfl, rfl⟩
end Go.Proofs.YtpghionmmlidnaaGreatDoor.Walks
