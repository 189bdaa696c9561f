/-
  The disk laws' acts, in a law's arguments.
  keelsonlaw39.light walked.
-/
import Derived.Test.YtimdaioojnohmaaMLaw
import Derived.Test.YtimdaioojnohmaaMQMap
namespace Go.Proofs.Ytimdaioojnohmaa
open Go.ChangeShapes Go.WideShapes Go.ChangeAt Go.RowKit Go.Deep Go.Joins

/-- An act: what; from, count, data, task, part, now, the chunks' slice and what it holds. -/
structure DOp where
  kind : Int
  frm : Nat
  cnt : Nat
  data : ByteArray
  task : Nat
  part : Int
  now : Nat
  ch : Value
  chunks : List Nat
instance : Inhabited DOp := ⟨⟨0, 0, 0, ByteArray.empty, 0, 0, 0, .slice none 0 0, []⟩⟩
def opcells8 (x : DOp) : List Value := [.int .i64 x.kind, .int .u32 x.frm, .int .u32 x.cnt, .string x.data, .int .u64 x.task, .int .i64 x.part, .int .u64 x.now, x.ch]
theorem opcells8_len (x : DOp) : (opcells8 x).length = 8 := rfl
structure DOpOk (w : World) (x : DOp) : Prop where
  frm : x.frm < 4294967296
  cnt : x.cnt < 4294967296
  task : x.task < 18446744073709551616
  now : x.now < 18446744073709551616
  data : x.data.size ≤ maxLen
  part : -9223372036854775808 ≤ x.part ∧ x.part ≤ 9223372036854775807
  ch : Rd w x.ch x.chunks.length (x.chunks.map (fun n => Value.int .u64 (n : Nat)))
  nums : ∀ a ∈ x.chunks, a < 18446744073709551616
theorem addr_cell {w : World} {a : Addr} {u : Value} (h : w.cell? (a.add 0) = some u) : ∃ b o, a = ⟨b, o, none⟩ := by
  obtain ⟨b, o, s⟩ := a
  cases s with
  | none => exact ⟨b, o, rfl⟩
  | some s =>
    exfalso
    revert h
    simp only [Addr.add, World.cell?]
    simp
    split <;> simp
section
variable {H : Type} {enc : TypeId × Value → H} {w : World} {base : Nat} {sp : Nat → Bool} {held : Bool}
theorem open_nums_cell {fuel : Nat} {c : Value} {x : DataW H × List MemPlace} (h : DataW.trod enc Try.prog w base sp held fuel 41 [c] = some x) :
    ∃ l : List Nat, Rd w c l.length (l.map (fun n => Value.int .u64 (n : Nat))) ∧ (∀ a ∈ l, a < 18446744073709551616) := by
  rcases open_slice1 Try.underlying41 (show Try.prog.cellsOf 29 = 1 by kernel_rfl) h with ⟨hcs, _⟩ | ⟨a, len, cap, m, k, V, D, Pl, hcs, _, hl, hm, hmm, _, hx⟩
  · obtain rfl : c = _ := (List.cons.inj hcs).1
    exact ⟨[], ⟨none, 0, rfl, Nat.le_refl _, fun j u hj => by simp at hj⟩, by simp⟩
  · obtain rfl : c = _ := (List.cons.inj hcs).1
    have hle : len ≤ m := by rw [hmm]; split <;> omega
    obtain ⟨g, hg⟩ := choose_lt (n := len) (p := fun i (y : Nat) => w.cell? (a.add i) = some (.int .u64 (y : Nat)) ∧ y < 18446744073709551616) (fun i hi => by
      obtain ⟨h1, h2⟩ := hx i (by omega)
      obtain ⟨n, e, -, hw⟩ := DataW.trod_int Try.underlying29 h2
      obtain ⟨y, rfl, hy⟩ := wf_u64 hw
      obtain e2 : V i = _ := (List.cons.inj e).1
      exact ⟨y, by rw [h1, e2], hy⟩)
    refine ⟨(List.range len).map g, ⟨some a, cap, by simp, by simpa using hl, fun j u hj => ?_⟩, fun x hx' => ?_⟩
    · have hjl : j < len := by
        have := (List.getElem?_eq_some_iff.1 hj).1
        simpa using this
      obtain ⟨b, o, rfl⟩ := addr_cell (hg 0 (by omega)).1
      refine ⟨b, o, rfl, ?_⟩
      have e := (hg j hjl).1
      rw [Addr.add_at] at e
      rw [e]
      simpa [hjl] using hj
    · obtain ⟨i, hi, rfl⟩ := List.mem_map.1 hx'
      exact (hg i (List.mem_range.1 hi)).2
set_option maxRecDepth 100000 in
theorem open_dop_cells {fuel : Nat} {cs : List Value} {x : DataW H × List MemPlace} (hl : cs.length = 8) (hx : DataW.trod enc Try.prog w base sp held fuel 50 cs = some x) : ∃ a, cs = opcells8 a ∧ DOpOk w a := by
  obtain ⟨xs, n, _, _, _, hlen, hf⟩ := DataW.trod_struct Try.underlying50 hx
  match cs, hl with
  | [c0, c1, c2, c3, c4, c5, c6, c7], _ =>
    have hone : oneCellFields Try.prog #[⟨"Kind", 3, 0, false, "", "", 0⟩, ⟨"From", 22, 1, false, "", "", 8⟩, ⟨"Count", 22, 2, false, "", "", 12⟩, ⟨"Data", 9, 3, false, "", "", 16⟩, ⟨"Task", 29, 4, false, "", "", 32⟩, ⟨"Part", 3, 5, false, "", "", 40⟩, ⟨"Now", 29, 6, false, "", "", 48⟩, ⟨"Chunks", 41, 7, false, "", "", 56⟩] = true := by kernel_rfl
    obtain ⟨-, k0⟩ := hone_of hone 0 _ rfl
    obtain ⟨-, k1⟩ := hone_of hone 1 _ rfl
    obtain ⟨-, k2⟩ := hone_of hone 2 _ rfl
    obtain ⟨-, k3⟩ := hone_of hone 3 _ rfl
    obtain ⟨-, k4⟩ := hone_of hone 4 _ rfl
    obtain ⟨-, k5⟩ := hone_of hone 5 _ rfl
    obtain ⟨-, k6⟩ := hone_of hone 6 _ rfl
    obtain ⟨-, k7⟩ := hone_of hone 7 _ rfl
    have l8 : xs.length = 8 := hlen
    have g0 := hf 0 _ rfl
    have g1 := hf 1 _ rfl
    have g2 := hf 2 _ rfl
    have g3 := hf 3 _ rfl
    have g4 := hf 4 _ rfl
    have g5 := hf 5 _ rfl
    have g6 := hf 6 _ rfl
    have g7 := hf 7 _ rfl
    rw [List.getElem?_eq_getElem (show 0 < xs.length by omega)] at g0
    rw [List.getElem?_eq_getElem (show 1 < xs.length by omega)] at g1
    rw [List.getElem?_eq_getElem (show 2 < xs.length by omega)] at g2
    rw [List.getElem?_eq_getElem (show 3 < xs.length by omega)] at g3
    rw [List.getElem?_eq_getElem (show 4 < xs.length by omega)] at g4
    rw [List.getElem?_eq_getElem (show 5 < xs.length by omega)] at g5
    rw [List.getElem?_eq_getElem (show 6 < xs.length by omega)] at g6
    rw [List.getElem?_eq_getElem (show 7 < xs.length by omega)] at g7
    simp only [k0, k1, k2, k3, k4, k5, k6, k7] at g0 g1 g2 g3 g4 g5 g6 g7
    obtain ⟨n0, e0, -, -⟩ := DataW.trod_int Try.underlying3 g0
    obtain ⟨n1, e1, -, hw1⟩ := DataW.trod_int Try.underlying22 g1
    obtain ⟨n2, e2, -, hw2⟩ := DataW.trod_int Try.underlying22 g2
    obtain ⟨s3, e3, -, hw3⟩ := DataW.trod_string Try.underlying9 g3
    obtain ⟨n4, e4, -, hw4⟩ := DataW.trod_int Try.underlying29 g4
    obtain ⟨n5, e5, -, hw5⟩ := DataW.trod_int Try.underlying3 g5
    obtain ⟨n6, e6, -, hw6⟩ := DataW.trod_int Try.underlying29 g6
    obtain ⟨l, hr, hb⟩ := open_nums_cell (c := c7) g7
    obtain ⟨m1, rfl, b1⟩ := wf_u32 hw1
    obtain ⟨m2, rfl, b2⟩ := wf_u32 hw2
    obtain ⟨m4, rfl, b4⟩ := wf_u64 hw4
    obtain ⟨m6, rfl, b6⟩ := wf_u64 hw6
    simp at e0 e1 e2 e3 e4 e5 e6
    subst e0 e1 e2 e3 e4 e5 e6
    exact ⟨⟨n0, m1, m2, s3, m4, n5, m6, c7, l⟩, rfl, b1, b2, b4, b6, hw3, wf_i64 hw5, hr, hb⟩
set_option maxRecDepth 100000 in
theorem open_dops {b0 : Nat} {v : Value} {d : DataW H} {p : List MemPlace} (hv : Value.okWide Try.prog w .any b0 42 v) (h : DataW.Trod enc Try.prog w base sp held 42 v d p) :
    ∃ l : List DOp, Rd w v l.length (l.flatMap opcells8) ∧ (∀ a ∈ l, DOpOk w a) ∧ l.length ≤ maxLen :=
  open_rows opcells8 (DOpOk w) Try.underlying42 (show Try.prog.cellsOf 50 = 8 by kernel_rfl) (fun _ _ _ hl hx => open_dop_cells hl hx) opcells8_len hv h
set_option maxRecDepth 100000 in
theorem open_dop {b0 : Nat} {v : Value} {d : DataW H} {p : List MemPlace} (hv : Value.okWide Try.prog w .any b0 50 v) (h : DataW.Trod enc Try.prog w base sp held 50 v d p) :
    ∃ a : DOp, v = .agg (opcells8 a).toArray ∧ DOpOk w a := by
  obtain ⟨cs, rfl, hsz⟩ := okWide_struct Try.underlying50 hv
  obtain ⟨fuel, h⟩ := h
  have h8 : cs.toList.length = 8 := by
    rw [Array.length_toList, hsz]
    kernel_rfl
  obtain ⟨a, ha, hok⟩ := open_dop_cells h8 h
  exact ⟨a, by rw [← ha], hok⟩
end
end Go.Proofs.Ytimdaioojnohmaa

namespace Go.Proofs.Ytimdaioojnohmaa
open Go.RowKit Go.Maps

theorem Rd.dop {w : World} {v : Value} {l : List DOp} (h : Rd w v l.length (l.flatMap opcells8)) (i : Nat) (hi : i < l.length) : ∃ b o c, v = .slice (some ⟨b, o, none⟩) l.length c ∧ l.length ≤ c ∧
    w.cell? ⟨b, o + i * 8, none⟩ = some (.int .i64 l[i].kind) ∧ w.cell? ⟨b, o + i * 8 + 1, none⟩ = some (.int .u32 (l[i].frm : Nat)) ∧ w.cell? ⟨b, o + i * 8 + 2, none⟩ = some (.int .u32 (l[i].cnt : Nat)) ∧
    w.cell? ⟨b, o + i * 8 + 3, none⟩ = some (.string l[i].data) ∧ w.cell? ⟨b, o + i * 8 + 4, none⟩ = some (.int .u64 (l[i].task : Nat)) ∧ w.cell? ⟨b, o + i * 8 + 5, none⟩ = some (.int .i64 l[i].part) ∧
    w.cell? ⟨b, o + i * 8 + 6, none⟩ = some (.int .u64 (l[i].now : Nat)) ∧ w.cell? ⟨b, o + i * 8 + 7, none⟩ = some l[i].ch := by
  obtain ⟨A, c, rfl, hc, hx⟩ := h
  have g := fun j (hj : j < 8) => flat_get opcells8 8 opcells8_len l i j hi hj
  obtain ⟨b, o, rfl, h0⟩ := hx _ _ ((g 0 (by decide)).trans rfl)
  have k : ∀ j u, j < 8 → (opcells8 l[i])[j]? = some u → w.cell? ⟨b, o + (i * 8 + j), none⟩ = some u := fun j u hj hu => by
    obtain ⟨b1, o1, e1, h1⟩ := hx _ _ ((g j hj).trans hu)
    cases e1
    exact h1
  exact ⟨b, o, c, rfl, hc, h0, k 1 _ (by decide) rfl, k 2 _ (by decide) rfl, k 3 _ (by decide) rfl, k 4 _ (by decide) rfl, k 5 _ (by decide) rfl, k 6 _ (by decide) rfl, k 7 _ (by decide) rfl⟩
def opLight (x : DOp) : Bool := decide (x.data.size ≤ 3000) && decide (x.chunks.length ≤ 300)
def lightB (n : Nat) (l : List DOp) : Bool := l.all opLight && (decide (l.length ≤ 60) && decide (n ≤ 300))
theorem all_take_succ (l : List DOp) (i : Nat) (h : i < l.length) (h1 : (l.take i).all opLight = true) (h2 : opLight l[i] = true) : (l.take (i + 1)).all opLight = true := by
  rw [List.take_succ_eq_append_getElem h, List.all_append, h1]
  simp [h2]
theorem all_miss (l : List DOp) (i : Nat) (h : i < l.length) (h2 : opLight l[i] = false) (n : Nat) : lightB n l = false := by
  unfold lightB
  have : l.all opLight = false := by
    rw [List.all_eq_false]
    exact ⟨l[i], List.getElem_mem h, by simp [h2]⟩
  rw [this]; rfl
set_option maxRecDepth 100000 in
set_option maxHeartbeats 1000000 in
theorem light_any (A1 : Option Addr) (n1 c1 : Nat) (v : Value) (l : List DOp) (w : World) (h : Rd w v l.length (l.flatMap opcells8)) (hok : ∀ p ∈ l, DOpOk w p) (hl : l.length ≤ maxLen) :
    Calls Try.prog 19 #[.slice A1 n1 c1, v] w fun e w' => e = .returned (.bool (lightB n1 l)) ∧ Keep No w w' := by
  obtain ⟨A, c, rfl, hlc, -⟩ := id h
  have H := Lib.hid h
  have HOK := Lib.hid hok
  unfold maxLen at hl
  clear h hok
  go_enter Try.func19, Try.ntmps19
  go_wp2_with fail
  go_loopw [9] (fun iv wr => ∃ i, i ≤ l.length ∧ iv = .int .i64 (i : Nat) ∧ Hid ((l.take i).all opLight = true) ∧ Keep No w wr) (fun iv _ => l.length - (intOf iv).toNat)
  case atStart => exact ⟨0, Nat.zero_le _, rfl, (show _ = _ from rfl), Keep.refl _ _⟩
  case round =>
    obtain ⟨i, hi, rfl, hall, hk⟩ := hrel
    by_cases hlt : i < l.length
    · obtain ⟨b, o, c', hv, hc', x0, x1, x2, x3, x4, x5, x6, x7⟩ := (H.out.keep hk).dop i hlt
      injection hv with hA _ hcc
      subst hA hcc
      have hopk := HOK.out l[i] (List.getElem_mem hlt)
      have hsucc := all_take_succ l i hlt hall.out
      have hmiss := fun h => all_miss l i hlt h n1
      generalize l[i] = op at *
      obtain ⟨kind, frm, cnt, data, task, part, now, ch, chunks⟩ := op
      obtain ⟨A7, c7, hch, -, -⟩ := hopk.ch
      simp only at hch x0 x1 x2 x3 x4 x5 x6 x7 hsucc hmiss
      subst hch
      by_cases h1 : data.size ≤ 3000
      · by_cases h2 : chunks.length ≤ 300
        · have HE := Lib.hid (hsucc (by unfold opLight; simp [h1, h2]))
          have e1 : decide ((3000 : Int) < (data.size : Int)) = false := by simp; omega
          have e2 : decide ((300 : Int) < (chunks.length : Int)) = false := by simp; omega
          clear hsucc hmiss hopk h1 h2
          go_wp2_with fail
          exact ⟨⟨i + 1, by omega, by simp, HE, hk.alloc _⟩, by simp [intOf]; omega⟩
        · have HE := Lib.hid (hmiss (by unfold opLight; simp [h2]))
          have e1 : decide ((3000 : Int) < (data.size : Int)) = false := by simp; omega
          have e2 : decide ((300 : Int) < (chunks.length : Int)) = true := by simp; omega
          clear hsucc hmiss hopk h1 h2
          go_wp2_with fail
          go_ret
          exact ⟨ret_bool HE.out.symm, hk.alloc _⟩
      · have HE := Lib.hid (hmiss (by unfold opLight; simp [h1]))
        have e1 : decide ((3000 : Int) < (data.size : Int)) = true := by simp; omega
        clear hsucc hmiss hopk h1
        go_wp2_with fail
        go_ret
        exact ⟨ret_bool HE.out.symm, hk.alloc _⟩
    · obtain rfl : i = l.length := by omega
      have hal := hall.out
      rw [List.take_length] at hal
      have HB : Hid (lightB n1 l = (decide (l.length ≤ 60) && decide (n1 ≤ 300))) := by show _ = _; unfold lightB; rw [hal]; rfl
      clear hal hall
      generalize l.length = n at *
      by_cases h1 : n ≤ 60
      · rw [decide_eq_true h1] at HB
        have e1 : decide ((n : Int) ≤ 60) = true := by simp; omega
        by_cases h2 : n1 ≤ 300
        · rw [decide_eq_true h2] at HB
          have e2 : decide ((n1 : Int) ≤ 300) = true := by simp; omega
          clear h1 h2
          go_wp2_with fail
          go_ret
          exact ⟨ret_bool HB.out.symm, hk⟩
        · rw [decide_eq_false h2] at HB
          have e2 : decide ((n1 : Int) ≤ 300) = false := by simp; omega
          clear h1 h2
          go_wp2_with fail
          go_ret
          exact ⟨ret_bool HB.out.symm, hk⟩
      · rw [decide_eq_false h1] at HB
        have e1 : decide ((n : Int) ≤ 60) = false := by simp; omega
        clear h1
        go_wp2_with fail
        go_ret
        exact ⟨ret_bool HB.out.symm, hk⟩
end Go.Proofs.Ytimdaioojnohmaa
