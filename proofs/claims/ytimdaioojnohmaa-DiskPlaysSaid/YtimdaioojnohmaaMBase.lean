/-
  Plain lemmas on the model's memory: what a call that may write the blocks of a set S, and makes new ones, leaves as it was.
  Slices in memory: what is read of one, what is one's own, and append.
  What a call may write, told by the numbers and the element types of blocks.
  Plain: a queue, by definition.
-/
import Derived.WalkKit
import Derived.WalkSpells
import Derived.WalkLawsBesides
import Derived.Lib.Hide
import Derived.Deep.QuietTactic
import Derived.BigQuiet
import Derived.Deep.RegionLaw
namespace Go.Proofs.Ytimdaioojnohmaa
open Go.RowKit

/-- All that was there and is not in S is as it was. -/
structure Keep (S : Nat → Prop) (w w' : World) : Prop where
  os : w'.os = w.os
  tape : w'.tape = w.tape
  output : w'.output = w.output
  size : w.heap.size ≤ w'.heap.size
  block : ∀ k, k < w.heap.size → ¬ S k → w'.heap[k]? = w.heap[k]?

theorem ret_int {k : IntKind} {a b : Int} (h : a = b) : Ending.returned (.int k a) = .returned (.int k b) := by rw [h]
theorem ret_bool {a b : Bool} (h : a = b) : Ending.returned (.bool a) = .returned (.bool b) := by rw [h]

def No : Nat → Prop := fun _ => False

theorem Keep.refl (S : Nat → Prop) (w : World) : Keep S w w := ⟨rfl, rfl, rfl, Nat.le_refl _, fun _ _ _ => rfl⟩
theorem Keep.trans' {S T U : Nat → Prop} {a b c : World} (h : Keep S a b) (k : Keep T b c) (hS : ∀ i, i < a.heap.size → S i → U i) (hT : ∀ i, i < a.heap.size → T i → U i) : Keep U a c :=
  ⟨k.os.trans h.os, k.tape.trans h.tape, k.output.trans h.output, Nat.le_trans h.size k.size, fun i hi hn =>
    (k.block i (Nat.lt_of_lt_of_le hi h.size) (fun e => hn (hT i hi e))).trans (h.block i hi (fun e => hn (hS i hi e)))⟩
theorem Keep.trans {S : Nat → Prop} {a b c : World} (h : Keep S a b) (k : Keep S b c) : Keep S a c := h.trans' k (fun _ _ x => x) (fun _ _ x => x)
theorem Keep.mono {S T : Nat → Prop} {a b : World} (h : Keep S a b) (hS : ∀ i, i < a.heap.size → S i → T i) : Keep T a b :=
  ⟨h.os, h.tape, h.output, h.size, fun i hi hn => h.block i hi (fun e => hn (hS i hi e))⟩
theorem Keep.no {T : Nat → Prop} {a b : World} (h : Keep No a b) : Keep T a b := h.mono (fun _ _ x => x.elim)
theorem Keep.fresh {S T : Nat → Prop} {a b c : World} (h : Keep S a b) (k : Keep T b c) (hT : ∀ i, T i → a.heap.size ≤ i) : Keep S a c :=
  h.trans' k (fun _ _ x => x) (fun i hi x => absurd (hT i x) (by omega))
theorem Keep.drew {S : Nat → Prop} {a b : World} (h : Keep S a b) : Keep S a b.drew := ⟨h.os, h.tape, h.output, h.size, h.block⟩
theorem Keep.drewN {S : Nat → Prop} {a b : World} (h : Keep S a b) (n : Nat) : Keep S a (b.drewN n) := ⟨h.os, h.tape, h.output, h.size, h.block⟩
theorem Keep.alloc {S : Nat → Prop} {a b : World} (h : Keep S a b) (o : Obj) : Keep S a (b.alloc o) :=
  ⟨h.os, h.tape, h.output, Nat.le_trans h.size (by simp), fun i hi hn => (Below.heap_alloc b o i (Nat.lt_of_lt_of_le hi h.size)).trans (h.block i hi hn)⟩
theorem Keep.setCell {S : Nat → Prop} {a b : World} (h : Keep S a b) {p : Addr} (hp : p.block < a.heap.size → S p.block) (u : Value) : Keep S a (b.setCell p u) :=
  ⟨h.os, h.tape, h.output, by simpa [World.setCell] using h.size, fun i hi hn => (Below.heap_setCell b p u i (fun e => hn (e ▸ hp (e ▸ hi)))).trans (h.block i hi hn)⟩
theorem Keep.grown {S : Nat → Prop} {a b c : World} (h : Keep S a b) {row : Option Nat} (hg : b.grownBy c row) (hr : ∀ k, row = some k → k < a.heap.size → S k) : Keep S a c :=
  ⟨hg.os.trans h.os, hg.tape.trans h.tape, hg.output.trans h.output, Nat.le_trans h.size hg.size, fun i hi hn =>
    (hg.block i (Nat.lt_of_lt_of_le hi h.size) (fun e => hn (hr i e.symm hi))).trans (h.block i hi hn)⟩
theorem Keep.below {a b : World} (h : Keep No a b) : Below a.heap.size a b := ⟨h.os, h.tape, h.output, h.size, fun i hi => h.block i hi (fun e => e)⟩
theorem Keep.ofBelow {S : Nat → Prop} {a b : World} (h : Below a.heap.size a b) : Keep S a b := ⟨h.os, h.tape, h.output, h.size, fun i hi _ => h.block i hi⟩
theorem Keep.cell {S : Nat → Prop} {a b : World} (h : Keep S a b) {p : Addr} (hp : p.block < a.heap.size) (hn : ¬ S p.block) : b.cell? p = a.cell? p := World.cell?_of_block (h.block p.block hp hn)
theorem Keep.cellSome {S : Nat → Prop} {a b : World} (h : Keep S a b) {p : Addr} {v : Value} (hv : a.cell? p = some v) (hn : ¬ S p.block) : b.cell? p = some v :=
  (h.cell (World.block_lt_of_cell? a p hv) hn).trans hv
theorem Keep.frozen {S : Nat → Prop} {a b : World} (h : Keep S a b) {p : Addr} (hp : p.block < a.heap.size) (hn : ¬ S p.block) : b.frozen? p = a.frozen? p := World.frozen?_of_block (h.block p.block hp hn)
theorem Keep.blk {S : Nat → Prop} {a b : World} (h : Keep S a b) {g : Nat} {o : Obj} (hg : a.heap[g]? = some o) (hn : ¬ S g) : b.heap[g]? = some o := (h.block g (lt_of_block hg) hn).trans hg

/-- What stands in a new world: 'simp [heap_al, Array.getElem?_push]'. -/
theorem heap_al (w : World) (o : Obj) : (w.alloc o).heap = w.heap.push o := rfl

/-- A block known whole: its cells, that they may be written, what it is behind a store. -/
theorem blk_cell {w : World} {g : Nat} {cs : Array Value} {t : TypeId} {fr : Nat × Nat} (h : w.heap[g]? = some (.cells cs t fr)) (i : Nat) : w.cell? ⟨g, i, none⟩ = cs[i]? := by simp [World.cell?, h]
theorem blk_free {w : World} {g : Nat} {cs : Array Value} {t : TypeId} (h : w.heap[g]? = some (.cells cs t (0, 0))) (i : Nat) : w.frozen? ⟨g, i, none⟩ = false := by simp [World.frozen?, h]
theorem blk_set {w : World} {g : Nat} {cs : Array Value} {t : TypeId} {fr : Nat × Nat} (h : w.heap[g]? = some (.cells cs t fr)) (i : Nat) (u : Value) : (w.setCell ⟨g, i, none⟩ u).heap[g]? = some (.cells (cs.setIfInBounds i u) t fr) := by
  have hlt := lt_of_block h
  have h' : w.heap[g] = .cells cs t fr := by simpa [Array.getElem?_eq_getElem hlt] using h
  show (w.heap.modify g _)[g]? = _
  rw [Array.getElem?_eq_getElem (by simpa using hlt), Array.getElem_modify_self, h']
  rfl
theorem blk_far {w : World} {g : Nat} {p : Addr} (hne : g ≠ p.block) (u : Value) : (w.setCell p u).heap[g]? = w.heap[g]? := Below.heap_setCell w p u g hne
theorem blk_new (w : World) (o : Obj) : (w.alloc o).heap[w.heap.size]? = some o := heap_alloc_new w o
theorem blk_at (w : World) (o : Obj) {n : Nat} (hn : n = w.heap.size) : (w.alloc o).heap[n]? = some o := hn ▸ heap_alloc_new w o
theorem blk_old {w : World} {g : Nat} {o : Obj} (h : w.heap[g]? = some o) (x : Obj) : (w.alloc x).heap[g]? = some o := (Below.heap_alloc w x g (lt_of_block h)).trans h
/-- Blocks of unlike element types are unlike. -/
theorem blk_ne {w : World} {g k : Nat} {cs ds : Array Value} {t u : TypeId} {fr fs : Nat × Nat} (h : w.heap[g]? = some (.cells cs t fr)) (h2 : w.heap[k]? = some (.cells ds u fs)) (ht : t ≠ u) : g ≠ k := by
  rintro rfl
  rw [h] at h2
  injection h2 with h2
  injection h2 with _ h2
  exact ht h2
end Go.Proofs.Ytimdaioojnohmaa

namespace Go.Proofs.Ytimdaioojnohmaa
open Go.RowKit

/-- A slice of m elements whose cells are cs. -/
def Sl (w : World) (v : Value) (m : Nat) (cs : List Value) : Prop :=
  (v = .slice none 0 0 ∧ m = 0 ∧ cs = []) ∨
  ∃ b o c, v = .slice (some ⟨b, o, none⟩) m c ∧ m ≤ c ∧ ∀ j u, cs[j]? = some u → w.cell? ⟨b, o + j, none⟩ = some u
theorem Sl.keep {S : Nat → Prop} {w w' : World} {v : Value} {m : Nat} {cs : List Value} (h : Sl w v m cs) (hk : Keep S w w') (hn : ∀ k, v.ownBlock = some k → ¬ S k) : Sl w' v m cs := by
  rcases h with h | ⟨b, o, c, rfl, hc, h⟩
  · exact .inl h
  · exact .inr ⟨b, o, c, rfl, hc, fun j u hj => hk.cellSome (h j u hj) (hn b rfl)⟩
theorem Sl.nil (w : World) : Sl w (.slice none 0 0) 0 [] := .inl ⟨rfl, rfl, rfl⟩
/-- A slice that has just been made of a literal. -/
theorem Sl.lit (w : World) (cs : Array Value) (t : TypeId) (m : Nat) : Sl (w.alloc (.cells cs t)) (.slice (Option.some ⟨w.heap.size, 0, none⟩) m m) m cs.toList := by
  refine .inr ⟨w.heap.size, 0, m, rfl, Nat.le_refl _, fun j u hj => ?_⟩
  rw [blk_cell (blk_new _ _)]
  simpa using hj
theorem own_lt {w : World} {base : Nat} {e : TypeId} {size : Nat} {v : Value} {n : Nat} {xs : List Value} (h : w.ownsRow base e size v n xs) {k : Nat} (hk : v.ownBlock = Option.some k) : k < w.heap.size := (h.lt k hk).2
theorem Sl.shape {w : World} {v : Value} {m : Nat} {cs : List Value} (h : Sl w v m cs) : ∃ A c, v = .slice A m c ∧ m ≤ c := by
  rcases h with ⟨rfl, rfl, rfl⟩ | ⟨b, o, c, rfl, hc, h⟩
  · exact ⟨none, 0, rfl, Nat.le_refl _⟩
  · exact ⟨_, c, rfl, hc⟩
/-- Where there is an element there is an array. -/
theorem Sl.some {w : World} {v : Value} {m : Nat} {cs : List Value} (h : Sl w v m cs) (hm : 0 < m) : ∃ b o c, v = .slice (some ⟨b, o, none⟩) m c ∧ m ≤ c ∧ ∀ j u, cs[j]? = some u → w.cell? ⟨b, o + j, none⟩ = some u := by
  rcases h with ⟨rfl, rfl, rfl⟩ | h
  · omega
  · exact h
theorem Addr.add_at (b o j : Nat) : (⟨b, o, none⟩ : Addr).add j = ⟨b, o + j, none⟩ := by unfold Addr.add; split <;> simp_all
theorem Sl.of_own {w : World} {base : Nat} {e : TypeId} {size : Nat} {v : Value} {n : Nat} {xs : List Value} (h : w.ownsRow base e size v n xs) : Sl w v n xs := by
  have hl := h.1
  rcases h.2 with ⟨rfl, rfl⟩ | ⟨g, cap, cur, rfl, _, hg, hc, hm, hs, ht⟩
  · exact .inl ⟨rfl, rfl, List.eq_nil_of_length_eq_zero (by simpa using hl)⟩
  · refine .inr ⟨g, 0, cap, rfl, hc, fun j u hj => ?_⟩
    have := h.cells (g := g) rfl j u hj
    rwa [Addr.add_at] at this
theorem own_keep {S : Nat → Prop} {w w' : World} {base : Nat} {e : TypeId} {size : Nat} {v : Value} {n : Nat} {xs : List Value} (h : w.ownsRow base e size v n xs) (hk : Keep S w w') (hn : ∀ k, v.ownBlock = some k → ¬ S k) : w'.ownsRow base e size v n xs := by
  refine ⟨h.1, ?_⟩
  rcases h.2 with h | ⟨g, cap, cur, rfl, hb, hg, r⟩
  · exact .inl h
  · exact .inr ⟨g, cap, cur, rfl, hb, hk.blk hg (hn g rfl), r⟩
theorem own_base {w : World} {base base' : Nat} {e : TypeId} {size : Nat} {v : Value} {n : Nat} {xs : List Value} (h : w.ownsRow base e size v n xs) (hn : ∀ k, v.ownBlock = some k → base' ≤ k) : w.ownsRow base' e size v n xs := by
  refine ⟨h.1, ?_⟩
  rcases h.2 with h | ⟨g, cap, cur, rfl, hb, hg, r⟩
  · exact .inl h
  · exact .inr ⟨g, cap, cur, rfl, hn g rfl, hg, r⟩
/-- The block of what is one's own is a row of that element type. -/
theorem own_blk {w : World} {base : Nat} {e : TypeId} {size : Nat} {v : Value} {n : Nat} {xs : List Value} (h : w.ownsRow base e size v n xs) {k : Nat} (hk : v.ownBlock = some k) : ∃ cur, w.heap[k]? = some (.cells cur e (0, 0)) := by
  rcases h.2 with ⟨rfl, _⟩ | ⟨g, cap, cur, rfl, hb, hg, r⟩
  · simp [Value.ownBlock] at hk
  · simp [Value.ownBlock] at hk
    subst hk
    exact ⟨cur, hg⟩

/-- The block of a slice. -/
def Own (v : Value) (k : Nat) : Prop := v.ownBlock = some k
/-- append, from whatever slice, to what is one's own. -/
theorem run_app {P : Program} (w : World) (t ty e : TypeId) (i : TypeInfo) (z : Value) (size bytes : Nat) (ht : P.underlying t = some (.slice e)) (hi : P.info? e = some i) (hz : i.zero = some z)
    (hsize : i.size = size) (hby : i.bytes = bytes) (hzs : z.cells.size = size) (hsz : 0 < size)
    (v : Value) (n : Nat) (xs : List Value) (hown : w.ownsRow 0 e size v n xs)
    (s : Value) (m : Nat) (news : List Value) (hs : Sl w s m news) (hl : news.length = m * size) (h1 : ∀ u ∈ news, u.oneCell' = true)
    (hbytes : (n + m) * bytes ≤ 140737488355328) (h63 : n + m ≤ maxLen) :
    ∃ v' w', (Builtin.append_ #[t, t] ty #[v, s]).run P w = .ok v' w' ∧ w'.ownsRow 0 e size v' (n + m) (xs ++ news) ∧ Keep (Own v) w w' ∧
      (∀ k, v'.ownBlock = some k → v.ownBlock = some k ∨ (w.heap.size ≤ k ∧ k < w'.heap.size)) ∧ (v' = .slice none 0 0 ↔ v = .slice none 0 0 ∧ m = 0) := by
  have keep : ∀ w' : World, w.grownBy w' v.ownBlock → Keep (Own v) w w' := fun w' hg => (Keep.refl _ _).grown hg (fun k hk _ => hk)
  have base0 : ∀ {w' : World} {b : Nat} {v' : Value} {n' : Nat} {ys : List Value}, w'.ownsRow b e size v' n' ys → w'.ownsRow 0 e size v' n' ys := fun h => own_base h (fun _ _ => Nat.zero_le _)
  rcases hs with ⟨rfl, rfl, rfl⟩ | ⟨b, o, c, rfl, hc, hcell⟩
  · refine ⟨v, w, run_append_owned_none w 0 t ty e i size ht hi v n xs hown, by simpa using hown, Keep.refl _ _, fun k hk => .inl hk, by simp⟩
  · have hnews : ∀ j u, news[j]? = some u → w.cell? ((⟨b, o, none⟩ : Addr).add j) = some u := fun j u hj => by rw [Addr.add_at]; exact hcell j u hj
    rcases hown.2 with ⟨rfl, rfl⟩ | ⟨g, cap, cur, rfl, hbg, hg, hnc, hcm, hcs, htake⟩
    · have hx : xs = [] := List.eq_nil_of_length_eq_zero (by simpa using hown.1)
      subst hx
      obtain ⟨v', w', hr, ho, hgr, hnil⟩ := run_append_own w w.heap.size t ty e i z size bytes ht hi hz hsize hby hzs hsz _ 0 [] (World.ownsRow_nil w _ e size) ⟨b, o, none⟩ m c news hl hnews h1 h63 hbytes (Nat.le_refl _)
      exact ⟨v', w', hr, base0 ho, keep w' hgr, fun k hk => .inr (ho.lt k hk), hnil⟩
    · by_cases hroom : n + m ≤ cap
      · obtain ⟨w', hr, ho, hgr⟩ := run_append_fits (P := P) w 0 t ty e i size ht hi hsize g n cap xs hown ⟨b, o, none⟩ m c news hl hnews h1 hroom
        exact ⟨_, w', hr, ho, keep w' hgr, fun k hk => .inl hk, by simp⟩
      · obtain ⟨v', w', hr, ho, hgr, hnil⟩ := run_append_own w 0 t ty e i z size bytes ht hi hz hsize hby hzs hsz _ n xs hown ⟨b, o, none⟩ m c news hl hnews h1 h63 hbytes (Nat.zero_le _)
        refine ⟨v', w', hr, ho, keep w' hgr, fun k hk => .inr ⟨?_, (ho.lt k hk).2⟩, hnil⟩
        have holds : ∀ j u, xs[j]? = some u → w.cell? ((⟨g, 0, none⟩ : Addr).add j) = some u := hown.cells (g := g) rfl
        subst hsize hby
        have h63' : ((n + m : Nat) : Int) ≤ 9223372036854775807 := by simp only [maxLen] at h63; omega
        have hr2 := run_append_grow (P := P) w t ty e i z ht hi hz ⟨g, 0, none⟩ n cap xs hown.1 holds ⟨b, o, none⟩ m c news hl hnews (by omega) h63' (growslice_fits (by omega) hbytes)
        rw [hr] at hr2
        injection hr2 with hv hw
        subst hv
        simp [Value.ownBlock] at hk
        omega

theorem own_slice {w : World} {base : Nat} {e : TypeId} {size : Nat} {v : Value} {n : Nat} {xs : List Value} (h : w.ownsRow base e size v n xs) : ∃ A c, v = .slice A n c := by
  rcases h.2 with ⟨rfl, rfl⟩ | ⟨g, cap, cur, rfl, _⟩
  · exact ⟨_, _, rfl⟩
  · exact ⟨_, _, rfl⟩
theorem wpList_app {P : Program} {w : World} {ops : Array Oper} {rest : List Oper} {o : Oper} {a : Act} {Q : Exit → Act → World → Prop} (hgd : o.guard = none) (ds sr : Operand) (t : TypeId)
    (ho : o.op = .call { callee := .builtin .append, args := #[ds, sr], argTypes := #[t, t] })
    (e : TypeId) (z : Value) (size bytes : Nat) (ht : P.underlying t = some (.slice e)) (hi : (P.info? e).map (fun i => (i.zero, i.size, i.bytes)) = some (some z, size, bytes)) (hzs : z.cells.size = size) (hsz : 0 < size)
    (v : Value) (n : Nat) (xs : List Value) (hown : w.ownsRow 0 e size v n xs) (hv : a.eval ds = v)
    (s : Value) (m : Nat) (news : List Value) (hs : Sl w s m news) (hx : a.eval sr = s) (hl : news.length = m * size) (h1 : ∀ u ∈ news, u.oneCell' = true)
    (hbytes : (n + m) * bytes ≤ 140737488355328) (h63 : n + m ≤ maxLen)
    (h : ∀ A' c' w', w'.ownsRow 0 e size (.slice A' (n + m) c') (n + m) (xs ++ news) → Keep (Own v) w w' →
      (∀ k, (Value.slice A' (n + m) c').ownBlock = some k → v.ownBlock = some k ∨ (w.heap.size ≤ k ∧ k < w'.heap.size)) → wpList P ops Q rest (a.put o.dst (.slice A' (n + m) c')) w') : wpList P ops Q (o :: rest) a w := by
  obtain ⟨i, hi, hz0, hz1, hz2⟩ := info_parts hi
  obtain ⟨v', w', hr, h2, h3, h4, h5⟩ := run_app (P := P) w t o.type e i z size bytes ht hi hz0 hz1 hz2 hzs hsz v n xs hown s m news hs hl h1 hbytes h63
  obtain ⟨A', c', rfl⟩ := own_slice h2
  refine wpList_plain hgd fun K hK => ?_
  unfold Oper.wp execOp
  simp only [ho, resolve, invoke, builtin, Sem.run_bind, Sem.run_pure, Result.andThen_ok, List.map_toArray, List.map_cons, List.map_nil, hv, hx, hr]
  exact hK _ _ (h A' c' w' h2 h3 h4)
/-- The same, as one step of a region that draws its order: for 'go_region_law'. -/
theorem step_app {P : Program} {ops : Array Oper} {o : Oper} {a : Act} {w : World} {K : Act → World → Prop} {Q : Exit → Act → World → Prop} {E : Prop} (hgd : o.guard = none) (ds sr : Operand) (t : TypeId)
    (ho : o.op = .call { callee := .builtin .append, args := #[ds, sr], argTypes := #[t, t] })
    (e : TypeId) (z : Value) (size bytes : Nat) (ht : P.underlying t = some (.slice e)) (hi : (P.info? e).map (fun i => (i.zero, i.size, i.bytes)) = some (some z, size, bytes)) (hzs : z.cells.size = size) (hsz : 0 < size)
    (v : Value) (n : Nat) (xs : List Value) (hown : w.ownsRow 0 e size v n xs) (hv : a.eval ds = v)
    (s : Value) (m : Nat) (news : List Value) (hs : Sl w s m news) (hx : a.eval sr = s) (hl : news.length = m * size) (h1 : ∀ u ∈ news, u.oneCell' = true)
    (hbytes : (n + m) * bytes ≤ 140737488355328) (h63 : n + m ≤ maxLen)
    (h : ∀ A' c' w', w'.ownsRow 0 e size (.slice A' (n + m) c') (n + m) (xs ++ news) → Keep (Own v) w w' →
      (∀ k, (Value.slice A' (n + m) c').ownBlock = some k → v.ownBlock = some k ∨ (w.heap.size ≤ k ∧ k < w'.heap.size)) → K (a.put o.dst (.slice A' (n + m) c')) w') :
    if Region.wanted o (yielded ops a.tmps) = true then Oper.wp P o a w K Q else E := by
  have hw : Region.wanted o (yielded ops a.tmps) = true := by simp [Region.wanted, hgd]
  rw [if_pos hw]
  obtain ⟨i, hi, hz0, hz1, hz2⟩ := info_parts hi
  obtain ⟨v', w', hr, h2, h3, h4, h5⟩ := run_app (P := P) w t o.type e i z size bytes ht hi hz0 hz1 hz2 hzs hsz v n xs hown s m news hs hl h1 hbytes h63
  obtain ⟨A', c', rfl⟩ := own_slice h2
  unfold Oper.wp execOp
  simp only [ho, resolve, invoke, builtin, Sem.run_bind, Sem.run_pure, Result.andThen_ok, List.map_toArray, List.map_cons, List.map_nil, hv, hx, hr]
  exact h A' c' w' h2 h3 h4
end Go.Proofs.Ytimdaioojnohmaa

namespace Go.Proofs.Ytimdaioojnohmaa
open Go.RowKit

/-- The element type of a row; none: no row (a map). -/
def sig : Obj → Option TypeId
  | .cells _ t _ => some t
  | _ => none
def Zone (T : Nat → Option TypeId → Prop) (w : World) (k : Nat) : Prop := ∃ o, w.heap[k]? = some o ∧ T k (sig o)
/-- All that was there is as it was, but for blocks of which T says so. -/
def KeepZ (T : Nat → Option TypeId → Prop) (w w' : World) : Prop := Keep (Zone T w) w w'

section
variable {T U : Nat → Option TypeId → Prop} {a b c : World}
theorem KeepZ.refl (T : Nat → Option TypeId → Prop) (w : World) : KeepZ T w w := Keep.refl _ _
theorem KeepZ.of (h : Keep No a b) : KeepZ T a b := h.no
theorem KeepZ.trans (h : KeepZ T a b) (k : KeepZ T b c) : KeepZ T a c :=
  ⟨k.os.trans h.os, k.tape.trans h.tape, k.output.trans h.output, Nat.le_trans h.size k.size, fun i hi hn => by
    have e := h.block i hi hn
    rw [← e]
    refine k.block i (Nat.lt_of_lt_of_le hi h.size) (fun ⟨o, ho, hT⟩ => hn ⟨o, ?_, hT⟩)
    rw [← e]; exact ho⟩
theorem KeepZ.mono (h : KeepZ T a b) (hT : ∀ k s, T k s → U k s) : KeepZ U a b := Keep.mono h (fun _ _ ⟨o, ho, ht⟩ => ⟨o, ho, hT _ _ ht⟩)
theorem KeepZ.then (h : KeepZ T a b) (k : Keep No b c) : KeepZ T a c := h.trans (KeepZ.of k)
theorem KeepZ.drew (h : KeepZ T a b) : KeepZ T a b.drew := Keep.drew h
theorem KeepZ.drewN (h : KeepZ T a b) (n : Nat) : KeepZ T a (b.drewN n) := Keep.drewN h n
theorem KeepZ.alloc (h : KeepZ T a b) (o : Obj) : KeepZ T a (b.alloc o) := Keep.alloc h o
theorem KeepZ.setCell (h : KeepZ T a b) {p : Addr} {o : Obj} (ho : b.heap[p.block]? = some o) (hT : T p.block (sig o)) (u : Value) : KeepZ T a (b.setCell p u) :=
  h.trans ((Keep.refl (Zone T b) b).setCell (fun _ => ⟨o, ho, hT⟩) u)
theorem KeepZ.own (h : KeepZ T a b) {e : TypeId} {size : Nat} {v : Value} {n : Nat} {xs : List Value} (ho : b.ownsRow 0 e size v n xs) (k : Keep (Own v) b c) (hT : ∀ i, v.ownBlock = some i → T i (some e)) : KeepZ T a c :=
  h.trans (Keep.mono k (fun i _ hi => by obtain ⟨cur, hcur⟩ := own_blk ho hi; exact ⟨_, hcur, hT i hi⟩))
theorem KeepZ.blk (h : KeepZ T a b) {g : Nat} {o : Obj} (hg : a.heap[g]? = some o) (hn : ¬ T g (sig o)) : b.heap[g]? = some o :=
  Keep.blk h hg (fun ⟨o', ho', ht⟩ => hn (by rw [hg] at ho'; injection ho' with e; rw [e]; exact ht))
theorem KeepZ.row (h : KeepZ T a b) {base : Nat} {e : TypeId} {size : Nat} {v : Value} {n : Nat} {xs : List Value} (ho : a.ownsRow base e size v n xs) (hn : ∀ i, v.ownBlock = some i → ¬ T i (some e)) : b.ownsRow base e size v n xs :=
  own_keep ho h (fun k hk ⟨o, hb, ht⟩ => by
    obtain ⟨cur, hcur⟩ := own_blk ho hk
    rw [hcur] at hb
    injection hb with hb
    subst hb
    exact hn k hk ht)
theorem KeepZ.sl (h : KeepZ T a b) {v : Value} {m : Nat} {cs : List Value} (hs : Sl a v m cs) (hn : ∀ i o, v.ownBlock = some i → a.heap[i]? = some o → ¬ T i (sig o)) : Sl b v m cs :=
  hs.keep h (fun k hk ⟨o, ho, ht⟩ => hn k o hk ho ht)
theorem KeepZ.no (h : KeepZ T a b) (hT : ∀ k s, T k s → a.heap.size ≤ k) : Keep No a b :=
  Keep.mono h (fun i hi ⟨o, _, ht⟩ => absurd (hT i _ ht) (by omega))
theorem KeepZ.cellSome (h : KeepZ T a b) {p : Addr} {v : Value} (hv : a.cell? p = some v) (hn : ∀ o, a.heap[p.block]? = some o → ¬ T p.block (sig o)) : b.cell? p = some v :=
  Keep.cellSome h hv (fun ⟨o, ho, ht⟩ => hn o ho ht)
end
end Go.Proofs.Ytimdaioojnohmaa

namespace Go.Proofs.Ytimdaioojnohmaa

abbrev QL := List (Nat × Nat)
def qcells (x : Nat × Nat) : List Value := [.int .u64 x.1, .int .u64 x.2]
def qhas (l : QL) (id : Nat) : Bool := l.any (fun x => x.1 == id)
def qput (most : Nat) (l : QL) (id now : Nat) : Nat × QL := if qhas l id then (41, l) else if most ≤ l.length then (53, l) else (0, l ++ [(id, now)])
def qdone (l : QL) (id : Nat) : Nat × QL := if qhas l id then (0, l.filter (fun x => !(x.1 == id))) else (40, l)
def islate (pat now : Nat) (x : Nat × Nat) : Bool := decide (x.2 ≤ now) && decide (pat ≤ now - x.2)
def qlate (pat : Nat) (l : QL) (now : Nat) : List Nat × QL := ((l.filter (islate pat now)).map (·.1), l.filter (fun x => !islate pat now x))
def u64v (x : Nat) : Value := .int .u64 (x : Int)
theorem u64v_one (l : List Nat) : ∀ u ∈ l.map u64v, u.oneCell' = true := by intro u hu; obtain ⟨x, _, rfl⟩ := List.mem_map.1 hu; rfl
theorem qcells_one (x : Nat × Nat) : ∀ u ∈ qcells x, u.oneCell' = true := by intro u hu; simp [qcells] at hu; rcases hu with rfl | rfl <;> rfl
/-- All numbers are of uint64. -/
def QB (l : QL) : Prop := ∀ x ∈ l, x.1 < 18446744073709551616 ∧ x.2 < 18446744073709551616
end Go.Proofs.Ytimdaioojnohmaa
