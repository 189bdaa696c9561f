/-
  Plain: a disk, by definition.
  Plain: what stands in the parts of a request.
-/
import Derived.Test.YtimdaioojnohmaaMBase
import Derived.Test.YtimdaioojnohmaaMFloat
import Derived.Test.YtimdaioojnohmaaMPlace
namespace Go.Proofs.Ytimdaioojnohmaa

structure DPart where
  task : Nat
  ix : Nat
  chunk : Nat
  frm : Nat
  cnt : Nat
  write : Bool
  data : ByteArray
  told : Bool
  got : ByteArray
structure DTask where
  parts : List DPart
  write : Bool
  wants : List Nat
  state : Nat
structure DD where
  per : Nat
  blocks : Nat
  chunks : List Nat
  most : Nat
  pat : Nat
  q : QL
  ts : List DTask
instance : Inhabited DPart := ⟨⟨0, 0, 0, 0, 0, false, ByteArray.empty, false, ByteArray.empty⟩⟩
instance : Inhabited DTask := ⟨⟨[], false, [], 0⟩⟩
instance : Inhabited CPart := ⟨⟨0, 0, 0, 0⟩⟩

/-- What is asked of a part: seven cells; the part: nine. -/
def acells (p : DPart) : List Value := [.int .u64 (p.task : Nat), .int .i64 (p.ix : Nat), .int .u64 (p.chunk : Nat), .int .u32 (p.frm : Nat), .int .u32 (p.cnt : Nat), .bool p.write, .string p.data]
def dcells (p : DPart) : List Value := acells p ++ [.bool p.told, .string p.got]
theorem acells_len (p : DPart) : (acells p).length = 7 := rfl
theorem dcells_len (p : DPart) : (dcells p).length = 9 := rfl
theorem acells_one (p : DPart) : ∀ u ∈ acells p, u.oneCell' = true := by
  intro u hu
  simp only [acells, List.mem_cons, List.not_mem_nil, or_false] at hu
  rcases hu with h | h | h | h | h | h | h <;> subst h <;> rfl
theorem dcells_one (p : DPart) : ∀ u ∈ dcells p, u.oneCell' = true := by
  intro u hu
  rcases List.mem_append.1 hu with h | h
  · exact acells_one p u h
  · simp only [List.mem_cons, List.not_mem_nil, or_false] at h
    rcases h with h | h <;> subst h <;> rfl

def dfit (per blocks n : Nat) : Bool := decide (1 ≤ per) && decide (per ≤ 64) && decide (1 ≤ blocks) && (n == (blocks - 1) / per + 1)
/-- The part number i of a request. -/
def askOf (chunks : List Nat) (id : Nat) (write : Bool) (data : ByteArray) (l : List CPart) (i : Nat) : DPart :=
  ⟨id, i, chunks.getD (l.getD i default).ch 0, (l.getD i default).bl, (l.getD i default).n, write, if write then data.extract (8 * (l.getD i default).off) (8 * ((l.getD i default).off + (l.getD i default).n)) else ByteArray.empty, false, ByteArray.empty⟩
def asksOf (chunks : List Nat) (id : Nat) (write : Bool) (data : ByteArray) (l : List CPart) (k : Nat) : List DPart := (List.range k).map (askOf chunks id write data l)
theorem asksOf_succ (chunks : List Nat) (id : Nat) (write : Bool) (data : ByteArray) (l : List CPart) (k : Nat) : asksOf chunks id write data l (k + 1) = asksOf chunks id write data l k ++ [askOf chunks id write data l k] := by simp [asksOf, List.range_succ]
theorem asksOf_len (chunks : List Nat) (id : Nat) (write : Bool) (data : ByteArray) (l : List CPart) (k : Nat) : (asksOf chunks id write data l k).length = k := by simp [asksOf]

/-- A task more. -/
def dadd (D : DD) (t : DTask) (now : Nat) : Nat × Nat × DD :=
  if (qput D.most D.q (D.ts.length + 1) now).1 = 0 then (D.ts.length + 1, 0, { D with q := (qput D.most D.q (D.ts.length + 1) now).2, ts := D.ts ++ [{ t with state := 1 }] })
  else (0, (qput D.most D.q (D.ts.length + 1) now).1, D)
def dbegin (D : DD) (a c : Nat) (write : Bool) (data : ByteArray) (now : Nat) : Nat × List DPart × Nat × DD :=
  if c = 0 ∨ D.blocks < a + c then (0, [], 30, D)
  else if 64 < (split a c D.per 8).length ∨ (split a c D.per 8).length = 0 then (0, [], 11, D)
  else
    let l := asksOf D.chunks (D.ts.length + 1) write data (split a c D.per 8) (split a c D.per 8).length
    let r := dadd D ⟨l, write, [], 0⟩ now
    if r.2.1 = 0 then (r.1, l, 0, r.2.2) else (0, [], r.2.1, r.2.2)
def dwrite (D : DD) (a : Nat) (data : ByteArray) (now : Nat) : Nat × List DPart × Nat × DD :=
  if data.size / 8 = 0 ∨ data.size % 8 ≠ 0 then (0, [], 2, D)
  else if D.blocks < data.size / 8 then (0, [], 30, D)
  else dbegin D a (data.size / 8) true data now
def dread (D : DD) (a c now : Nat) : Nat × List DPart × Nat × DD := dbegin D a c false ByteArray.empty now
/-- The tasks that wait, of which it is said. -/
def dwaitOf (ts : List DTask) (p : DTask → Bool) : List Nat := ((List.range ts.length).filter (fun i => ((ts.getD i default).state == 1) && p (ts.getD i default))).map (· + 1)
def dend (D : DD) (id : Nat) : DD := { D with q := (qdone D.q id).2, ts := D.ts.set (id - 1) { D.ts.getD (id - 1) default with state := 2 } }
def dready (D : DD) (id : Nat) : Bool := !((D.ts.getD (id - 1) default).wants.any (fun k => !((D.ts.getD (k - 1) default).state == 2)))
def dflushes (D : DD) : DD := (dwaitOf D.ts (fun t => t.parts.length == 0)).foldl (fun D id => if dready D id then dend D id else D) D
def dflush (D : DD) (now : Nat) : Nat × Nat × DD :=
  let r := dadd D ⟨[], false, dwaitOf D.ts (·.write), 0⟩ now
  (r.1, r.2.1, if r.2.1 = 0 then dflushes r.2.2 else r.2.2)
def dtold (D : DD) (id : Nat) (k : Int) (data : ByteArray) : Nat × DD :=
  if id = 0 ∨ D.ts.length < id then (40, D)
  else
    let t := D.ts.getD (id - 1) default
    if t.state ≠ 1 ∨ k < 0 ∨ (t.parts.length : Int) ≤ k then (40, D)
    else
      let p := t.parts.getD k.toNat default
      if p.told then (51, D)
      else if !t.write ∧ data.size ≠ 8 * p.cnt then (2, D)
      else
        let t' : DTask := { t with parts := t.parts.set k.toNat { p with told := true, got := data } }
        let D' : DD := { D with ts := D.ts.set (id - 1) t' }
        if t'.parts.any (fun p => !p.told) then (0, D') else (0, dflushes (dend D' id))
def dlates (ts : List DTask) (l : List Nat) : List DTask := l.foldl (fun ts id => ts.set (id - 1) { ts.getD (id - 1) default with state := 3 }) ts
def dtick (D : DD) (now : Nat) : List Nat × DD := ((qlate D.pat D.q now).1, { D with q := (qlate D.pat D.q now).2, ts := dlates D.ts (qlate D.pat D.q now).1 })
def dgrow (D : DD) (blocks : Nat) (chunks : List Nat) : Nat × DD :=
  if blocks < D.blocks ∨ dfit D.per blocks chunks.length = false ∨ chunks.take D.chunks.length ≠ D.chunks then (2, D) else (0, { D with blocks := blocks, chunks := chunks })
def gotOf (l : List DPart) : ByteArray := l.foldl (fun s p => s ++ p.got) ByteArray.empty
def dstate (D : DD) (id : Nat) : Nat × ByteArray :=
  if id = 0 ∨ D.ts.length < id then (0, ByteArray.empty)
  else
    let t := D.ts.getD (id - 1) default
    if t.write ∨ t.state ≠ 2 then (t.state, ByteArray.empty) else (t.state, gotOf t.parts)
def dopen (D : DD) : List DPart := (dwaitOf D.ts (fun _ => true)).flatMap (fun id => (D.ts.getD (id - 1) default).parts.filter (fun p => !p.told))
end Go.Proofs.Ytimdaioojnohmaa

namespace Go.Proofs.Ytimdaioojnohmaa

theorem cut_in (per most a c : Nat) : ∀ d off, c - off = d → ∀ p ∈ cut per most a c off, p.ch = (a + p.off) / per ∧ p.bl = (a + p.off) % per ∧ p.n ≤ most ∧ 0 < p.n ∧ p.off + p.n ≤ c := by
  intro d
  induction d using Nat.strongRecOn with
  | _ d ih =>
    intro off hd p hp
    rw [cut] at hp
    by_cases h : off < c ∧ 0 < piece per most a c off
    · rw [dif_pos h] at hp
      have h2 := piece_le h.1 (per := per) (most := most) (a := a)
      rcases List.mem_cons.1 hp with e | hp
      · subst e
        refine ⟨rfl, rfl, ?_, h.2, h2⟩
        show piece per most a c off ≤ most
        unfold piece; omega
      · exact ih (c - (off + piece per most a c off)) (by omega) _ rfl p hp
    · rw [dif_neg h] at hp
      cases hp
theorem split_in (a c per most : Nat) : ∀ p ∈ split a c per most, p.ch = (a + p.off) / per ∧ p.bl = (a + p.off) % per ∧ p.n ≤ most ∧ 0 < p.n ∧ p.off + p.n ≤ c := by
  intro p hp
  unfold split at hp
  split at hp
  · cases hp
  · split at hp
    · exact cut_in per most a c _ 0 rfl p hp
    · cases hp
theorem dbegin_30 (D : DD) (a c : Nat) (write : Bool) (data : ByteArray) (now : Nat) (h : c = 0 ∨ D.blocks < a + c) : dbegin D a c write data now = (0, [], 30, D) := by
  unfold dbegin
  rw [if_pos h]
theorem dbegin_11 (D : DD) (a c : Nat) (write : Bool) (data : ByteArray) (now : Nat) (h : ¬ (c = 0 ∨ D.blocks < a + c)) (h2 : 64 < (split a c D.per 8).length ∨ (split a c D.per 8).length = 0) : dbegin D a c write data now = (0, [], 11, D) := by
  unfold dbegin
  rw [if_neg h, if_pos h2]
theorem dbegin_ok (D : DD) (a c : Nat) (write : Bool) (data : ByteArray) (now : Nat) (h : ¬ (c = 0 ∨ D.blocks < a + c)) (h2 : ¬ (64 < (split a c D.per 8).length ∨ (split a c D.per 8).length = 0)) (l : List DPart) (hl : l = asksOf D.chunks (D.ts.length + 1) write data (split a c D.per 8) (split a c D.per 8).length) :
    dbegin D a c write data now = if (dadd D ⟨l, write, [], 0⟩ now).2.1 = 0 then ((dadd D ⟨l, write, [], 0⟩ now).1, l, 0, (dadd D ⟨l, write, [], 0⟩ now).2.2) else (0, [], (dadd D ⟨l, write, [], 0⟩ now).2.1, (dadd D ⟨l, write, [], 0⟩ now).2.2) := by
  unfold dbegin
  rw [if_neg h, if_neg h2, hl]
end Go.Proofs.Ytimdaioojnohmaa
