/-
  THE COUNCIL WITHOUT Go: three leaders, three voters, what was chosen; what a master's asking and its proposing make of them.
-/
import Derived.Test.YtlmkiekdkonofaaDoorLh
namespace Go.Proofs.YtlmkiekdkonofaaDoor

/-- A leader: its ballot, from, phase, who has promised; the vote that binds (its ballot, its replica); what is proposed (a replica); who has said yes. -/
structure Ld where
  bal : Int
  frm : Int
  ph : Int
  pm : Nat
  bd : Option (Int × Int)
  pend : Option Int
  sd : Nat

/-- The council: the leaders; what each voter has promised, and voted for (ballot 0: nothing; the replica); what was chosen. -/
structure Cn where
  ld : Nat → Ld
  pr : Nat → Int
  vb : Nat → Int
  vv : Nat → Int
  ch : Int

def put {α : Type} (f : Nat → α) (k : Nat) (x : α) : Nat → α := fun j => if j = k then x else f j
theorem put_same {α : Type} (f : Nat → α) (k : Nat) (x : α) : put f k x k = x := by simp [put]
theorem put_other {α : Type} (f : Nat → α) (k : Nat) (x : α) {j : Nat} (h : j ≠ k) : put f k x j = f j := by simp [put, h]

/-- A leader that has just started. -/
def started (b : Int) : Ld := { bal := b, frm := 1, ph := 1, pm := 0, bd := none, pend := none, sd := 0 }
/-- The ballot that a master takes. -/
def newB (st : Cn) (who : Nat) : Int := nextB who (max (st.pr who) (st.ld who).bal)
def start (st : Cn) (who : Nat) : Cn := { st with ld := put st.ld who (started (newB st who)) }
/-- What binds, behind one more vote. -/
def bind1 (bd : Option (Int × Int)) (vb v : Int) : Option (Int × Int) :=
  if vb = 0 then bd else match bd with
    | none => some (vb, v)
    | some (ub, u) => if ub < vb then some (vb, v) else some (ub, u)
/-- A leader, behind a promise. -/
def promised (l : Ld) (k : Nat) (vb v : Int) : Ld := { l with pm := orB l.pm k, ph := phB (orB l.pm k), bd := bind1 l.bd vb v }
/-- A voter promises. -/
def rnd (st : Cn) (who k : Nat) : Cn := { st with ld := put st.ld who (promised (st.ld who) k (st.vb k) (st.vv k)), pr := put st.pr k (st.ld who).bal }
/-- It has promised a ballot that is no smaller. -/
def refused (st : Cn) (who k : Nat) : Cn := if st.pr k ≤ (st.ld who).bal then st else { st with ld := put st.ld who { st.ld who with ph := 0, pend := none } }
def behind (k : Nat) : Nat := (k + 1) % 3
/-- A master asks two. -/
def ask (st : Cn) (who whom : Nat) : Cn :=
  let s0 := start st who
  if (s0.ld who).bal ≤ s0.pr whom then refused s0 who whom else
  let s1 := rnd s0 who whom
  if (s1.ld who).bal ≤ s1.pr (behind whom) then refused s1 who (behind whom) else rnd s1 who (behind whom)

/-- A leader, behind a proposal. -/
def proposed (l : Ld) (v : Int) : Ld := { l with pend := some v, sd := 0 }
/-- What is proposed where nothing is pending. -/
def toSay (l : Ld) (who : Nat) : Int := match l.bd with
  | none => 10 + who
  | some (_, v) => v
/-- It may propose. -/
def may (l : Ld) : Prop := l.ph = 2 ∧ l.frm ≤ 1
/-- A voter votes for p; the leader counts. -/
def voted1 (st : Cn) (who whom : Nat) (p : Int) : Cn :=
  let l := st.ld who
  let l' := if 2 ≤ cnt (orB l.sd whom) then { l with frm := 2, pend := none, sd := orB l.sd whom } else { l with sd := orB l.sd whom }
  { ld := put st.ld who l', pr := put st.pr whom l.bal, vb := put st.vb whom l.bal, vv := put st.vv whom p, ch := if 2 ≤ cnt (orB l.sd whom) then p else st.ch }
/-- It is pending: it is told to a voter. -/
def tell (st : Cn) (who whom : Nat) (p : Int) : Cn := if (st.ld who).bal < st.pr whom then st else voted1 st who whom p
open Classical in
/-- A master proposes. -/
noncomputable def say (st : Cn) (who whom : Nat) : Cn := match (st.ld who).pend with
  | some p => tell st who whom p
  | none => if may (st.ld who) then tell { st with ld := put st.ld who (proposed (st.ld who) (toSay (st.ld who) who)) } who whom (toSay (st.ld who) who) else st

end Go.Proofs.YtlmkiekdkonofaaDoor
