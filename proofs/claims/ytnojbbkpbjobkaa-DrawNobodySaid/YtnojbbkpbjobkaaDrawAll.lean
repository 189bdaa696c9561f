/-
  lives and DrawAll walked.
-/
import Derived.Test.YtnojbbkpbjobkaaNew
import Derived.Test.YtnojbbkpbjobkaaDig
namespace Go.Proofs.Ytnojbbkpbjobkaa
open Go.RowKit

theorem lives_any (w : World) : Calls Try.prog 7 #[] w fun e w' => e = .returned (.bool true) ∧ Keep No w w' := by
  have hs : Sl (w.alloc (.cells #[.int .u8 7, .int .u8 1] 5)) (.slice (some ⟨w.heap.size, 0, none⟩) 2 2) 2 ([7, 1].map u8v) := .inr ⟨w.heap.size, 0, 2, rfl, Nat.le_refl _, fun j u hj => by
    rw [blk_cell (blk_new _ _)]
    rcases j with _ | _ | j <;> simp [u8v] at hj ⊢ <;> exact hj⟩
  have n5 : numN 5 [7, 1] = (2, [1]) := by
    unfold numN
    rw [if_neg (by decide), show ((5 : Int) - 1).toNat = 4 from rfl, numX_pos _ _ _ (by decide), show 4 / 256 = 0 from rfl, numX_zero]
    rfl
  have n300 : numN 300 [1] = (256, []) := by
    unfold numN
    rw [if_neg (by decide), show ((300 : Int) - 1).toNat = 299 from rfl, numX_pos _ _ _ (by decide), show 299 / 256 = 1 from rfl, numX_pos _ _ _ (by decide), show 1 / 256 = 0 from rfl, numX_zero]
    rfl
  have c5 : ∀ g w1, Src w1 g [7, 1] → Calls Try.prog 6 #[.pointer (some ⟨g, 0, none⟩), .int .i64 5] w1 fun e w' => e = .returned (.int .i64 2) ∧ SrcP w' (some ⟨g, 0, none⟩) [1] ∧ Keep (at_ (some ⟨g, 0, none⟩)) w1 w' := fun g w1 h => by
    have := num_any (some ⟨g, 0, none⟩) [7, 1] 5 w1 ⟨rfl, h⟩ (by decide) (by decide)
    rw [n5] at this
    exact this
  have c300 : ∀ g w1, SrcP w1 (some ⟨g, 0, none⟩) [1] → Calls Try.prog 6 #[.pointer (some ⟨g, 0, none⟩), .int .i64 300] w1 fun e w' => e = .returned (.int .i64 256) ∧ SrcP w' (some ⟨g, 0, none⟩) [] ∧ Keep (at_ (some ⟨g, 0, none⟩)) w1 w' := fun g w1 h => by
    have := num_any (some ⟨g, 0, none⟩) [1] 300 w1 h (by decide) (by decide)
    rw [n300] at this
    exact this
  have C5 := Lib.hid c5
  have C300 := Lib.hid c300
  clear c5 c300 n5 n300
  go_enter Try.func7, Try.ntmps7
  go_wp2_with (go_at_call 5; refine (new_any _ [7, 1] _ hs (by simp)).mono ?_; rintro e w1 ⟨g, rfl, h1, hg, hk⟩)
  refine (C5.out g _ h1).mono ?_
  rintro e w2 ⟨rfl, h2, hk2⟩
  go_wp2_with fail
  refine (C300.out g _ h2).mono ?_
  rintro e w3 ⟨rfl, h3, hk3⟩
  go_wp2_with fail
  refine (left_any _ _ _ h3).mono ?_
  rintro e w4 ⟨rfl, rfl⟩
  go_wp2_with fail
  go_ret
  refine ⟨rfl, (((((Keep.refl No w).alloc _).trans hk).fresh hk2 ?_).fresh hk3 ?_)⟩ <;> (intro i hi; simp [at_] at hi hg; omega)

theorem all_out (n x : Int) (w : World) (h1 : -9223372036854775808 ≤ n) (h2 : n ≤ 9223372036854775807) (h : x < 0 ∨ n ≤ x) :
    Calls Try.prog 3 #[.int .i64 n, .int .i64 x] w fun e w' => e = .returned (.bool true) ∧ Keep No w w' := by
  have key : ∀ g w1, Src w1 g [] → Calls Try.prog 6 #[.pointer (some ⟨g, 0, none⟩), .int .i64 n] w1 fun e w' => e = .returned (.int .i64 0) ∧ SrcP w' (some ⟨g, 0, none⟩) [] ∧ Keep (at_ (some ⟨g, 0, none⟩)) w1 w' := fun g w1 hs => by
    have := num_any (some ⟨g, 0, none⟩) [] n w1 ⟨rfl, hs⟩ h1 h2
    rw [numN_nil] at this
    exact this
  have C := Lib.hid key
  clear key
  by_cases hx : x < 0
  all_goals
    have hx2 : 0 ≤ x → n ≤ x := by omega
    go_enter Try.func3, Try.ntmps3
    go_wp2_with (first | (go_at_call 5; refine (new_any _ [] _ (Sl.nil _) (by simp)).mono ?_; rintro e w1 ⟨g, rfl, hs1, hg, hk⟩))
    refine (C.out g _ hs1).mono ?_
    rintro e w2 ⟨rfl, hs2, hk2⟩
    go_wp2_with fail
    refine (lives_any _).mono ?_
    rintro e w3 ⟨rfl, hk3⟩
    go_wp2_with fail
    go_ret
    refine ⟨rfl, ((hk.fresh hk2 ?_).trans hk3)⟩
    intro i hi; simp [at_] at hi hg; omega

theorem byte_of (x : Nat) : IntKind.u8.wrap (x : Int) = ((UInt8.ofNat x).toNat : Int) := by
  rw [IntKind.wrap_u8]; simp

theorem all_in (n x : Nat) (w : World) (h2 : n ≤ 9223372036854775807) (h : x < n) :
    Calls Try.prog 3 #[.int .i64 n, .int .i64 x] w fun e w' => e = .returned (.bool true) ∧ Keep No w w' := by
  have h3 : ((x : Int) < 0) = False := by simp
  have h4 : ¬ ((n : Int) ≤ x) := by omega
  have hw8 := wd_le (n - 1) (by omega)
  go_enter Try.func3, Try.ntmps3
  go_wp2_with fail
  go_loopw [1, 5, 6] (fun x1 b m wr => ∃ (x' m' : Nat) (l : List UInt8) (A : Option Addr) (c : Nat), x1 = .int .i64 x' ∧ b = .slice A l.length c ∧ m = .int .i64 m' ∧ wr.ownsRow 0 5 1 (.slice A l.length c) l.length (l.map u8v) ∧
      (∀ k, (Value.slice A l.length c).ownBlock = some k → w.heap.size ≤ k) ∧ Keep No w wr ∧ Hid (dig m' x' l = dig (n - 1) x []) ∧ x' < 9223372036854775808 ∧ m' < 9223372036854775808 ∧ wd m' + l.length ≤ 8) (fun _ _ m _ => (intOf m).toNat)
  case atStart => exact ⟨x, n - 1, [], none, 0, rfl, rfl, by rw [Int.natCast_sub (by omega)]; rfl, World.ownsRow_nil _ _ _ _, fun k hk => by simp [Value.ownBlock] at hk, Keep.refl _ _, rfl, by omega, by omega, by simp; omega⟩
  case round =>
    obtain ⟨x', m', l, A, c, rfl, rfl, rfl, ho, hA, hk, hd, hx', hm', hl8⟩ := hrel
    by_cases h0 : 0 < m'
    · have hb : ((UInt8.ofNat x').toNat : Int) = (x' : Int) % 256 := by simp
      have HB := Lib.hid hb
      clear hb
      have hown : (wr.alloc (.cells #[.int .u8 ((x' : Int) % 256)] 5)).ownsRow 0 5 1 (.slice (some ⟨wr.heap.size, 0, none⟩) 1 1) 1 ([UInt8.ofNat x'].map u8v) := by
        have := World.ownsRow_lit (base := 0) (e := 5) (size := 1) wr #[.int .u8 ((x' : Int) % 256)] 1 (Nat.zero_le _) (by simp [maxLen]) rfl
        simpa [u8v, HB.out] using this
      have hs : Sl (wr.alloc (.cells #[.int .u8 ((x' : Int) % 256)] 5)) (.slice A l.length c) l.length (l.map u8v) := (Sl.of_own ho).keep ((Keep.refl No _).alloc _) (fun _ _ h => h)
      have hl63 : 1 + l.length ≤ maxLen := by simp only [maxLen]; omega
      have hone := u8v_one l
      go_wp2_with (at_builtin; refine wpList_app rfl _ _ 26 rfl 5 (.int .u8 0) 1 1 Try.underlying26 Try.info5 rfl (by decide) _ 1 _ hown rfl _ l.length _ hs rfl (by simp) hone (by omega) hl63 ?_; intro A' c' w' ho' hk' hn')
      have hw := wd_pos m' h0
      refine ⟨⟨x' / 256, m' / 256, UInt8.ofNat x' :: l, A', c', by simp, by rw [List.length_cons, Nat.add_comm], by simp, by rw [List.length_cons, Nat.add_comm]; simpa using ho', ?_, ?_, ?_, by omega, by omega, by rw [List.length_cons]; omega⟩, by simp [intOf]; omega⟩
      · intro k hkk
        rw [List.length_cons, Nat.add_comm] at hkk
        rcases hn' k hkk with e | e
        · simp [Value.ownBlock] at e; have := hk.size; omega
        · have := hk.size; simp at e; omega
      · exact (hk.alloc _).fresh hk' (fun i hi => by simp [Own, Value.ownBlock] at hi; have := hk.size; omega)
      · show dig _ _ _ = _
        rw [← dig_pos m' x' l h0]
        exact hd.out
    · obtain rfl : m' = 0 := by omega
      have hl : l = dig (n - 1) x [] := by have := hd.out; rw [dig_zero] at this; exact this
      have hs := Sl.of_own ho
      have hbound : ∀ k, val 0 (l.take k) ≤ x := fun k => by have := val_take l k; rw [hl, val_dig n x h] at this; rw [hl]; exact this
      have hlen : l.length ≤ 8 := by omega
      have HL := Lib.hid hl
      have HBd := Lib.hid hbound
      clear hl hd hbound
      go_wp2_with fail
      go_loopw [7, 40] (fun wv iv wr2 => ∃ k, k ≤ l.length ∧ iv = .int .i64 (k : Nat) ∧ wv = .int .i64 (val 0 (l.take k) : Nat) ∧ wr = wr2) (fun _ i _ => l.length - (intOf i).toNat)
      case atStart => exact ⟨0, Nat.zero_le _, rfl, rfl, rfl⟩
      case round =>
        obtain ⟨k, hkl, rfl, rfl, rfl⟩ := hrel
        by_cases hlt : k < l.length
        · have hcell : ∃ b o, A = some ⟨b, o, none⟩ ∧ wr.cell? ⟨b, o + k, none⟩ = some (.int .u8 (l[k].toNat : Int)) := by
            obtain ⟨b, o, c0, hv, hc0, hx⟩ := hs.some (by omega)
            injection hv with hv
            exact ⟨b, o, hv, hx k _ (by simp [hlt, u8v])⟩
          obtain ⟨b, o, rfl, hcell⟩ := hcell
          have hle := (UInt8.toNat_lt l[k])
          have hv := val_succ l k hlt
          have hb1 := HBd.out (k + 1)
          rw [hv] at hb1
          have HV := Lib.hid hv
          clear hv
          generalize val 0 (l.take k) = V at *
          go_wp2_with fail
          exact ⟨⟨k + 1, by omega, by simp, by rw [HV.out]; simp, trivial⟩, by simp [intOf]; omega⟩
        · obtain rfl : k = l.length := by omega
          rw [List.take_length]
          have hval : val 0 l = x := by rw [HL.out, val_dig n x h]
          rw [hval]
          clear hval
          go_wp2_with fail
          refine (new_any _ l _ hs (by omega)).mono ?_
          rintro e w1 ⟨g, rfl, hs1, hg, hk1⟩
          have c6 := num_any (some ⟨g, 0, none⟩) l n w1 ⟨rfl, hs1⟩ (by omega) (by omega)
          rw [HL.out, numN_dig n x h] at c6
          have C6 := Lib.hid c6
          clear c6
          go_wp2_with fail
          refine C6.out.mono ?_
          rintro e w2 ⟨rfl, hs2, hk2⟩
          go_wp2_with fail
          refine (left_any _ _ _ hs2).mono ?_
          rintro e w3 ⟨rfl, rfl⟩
          go_wp2_with fail
          refine (lives_any _).mono ?_
          rintro e w3 ⟨rfl, hk3⟩
          go_wp2_with fail
          go_ret
          refine ⟨rfl, (((hk.trans hk1).fresh hk2 ?_).trans hk3)⟩
          intro i hi
          have := hk.size
          simp [at_] at hi
          omega
end Go.Proofs.Ytnojbbkpbjobkaa
