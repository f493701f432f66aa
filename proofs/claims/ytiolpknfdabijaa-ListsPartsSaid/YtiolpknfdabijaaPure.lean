/- Plain mathematics of masks (128 bits), vectors, arenas and lists: what the code of layers 5, 9, 10 and 13 computes, on numbers and lists alone. -/
import Derived.KernelRfl
set_option linter.unusedVariables false
set_option linter.unusedSimpArgs false
namespace Go.Proofs.Ytiolpknfdabijaa

/-! ### Masks -/
abbrev Mask := BitVec 128
def mAll : Mask := BitVec.ofNat 128 (2 ^ 96 - 1)
def mBelow (n : Nat) : Mask := BitVec.ofNat 128 (2 ^ n - 1)
def mBit (n : Nat) : Mask := BitVec.twoPow 128 n
def mSlot (n : Int) : Bool := decide (0 ≤ n) && decide (n < 96)
def mOrs (l : List Mask) : Mask := l.foldl (· ||| ·) 0
def mAnds (l : List Mask) : Mask := l.foldl (· &&& ·) mAll
def mOr (l : List Mask) : Mask := mOrs l &&& mAll
def mHas (m : Mask) (n : Int) : Bool := mSlot n && m.getLsbD n.toNat
def pop (m : Mask) : Nat := (List.range 128).countP fun i => m.getLsbD i
def mCount (m : Mask) : Nat := pop (m &&& mAll)
def mCheck (m : Mask) : Bool := (m &&& ~~~mAll) == 0
/-- mask.Of: the mask, and whether all are slots -/
def mOf (l : List Int) : Option Mask := if l.all mSlot then some (l.foldl (fun m n => m ||| mBit n.toNat) 0) else none

theorem mask_bit_has (m : Mask) (n : Nat) (h : n < 128) : (!(m &&& mBit n == 0)) = m.getLsbD n := by
  unfold mBit
  rw [Bool.eq_iff_iff]
  constructor
  · intro e
    refine Classical.byContradiction fun hn => ?_
    have : m &&& BitVec.twoPow 128 n = 0 := by
      apply BitVec.eq_of_getLsbD_eq
      intro i hi
      simp only [BitVec.getLsbD_and, BitVec.getLsbD_twoPow]
      by_cases e : n = i
      · subst e; simp at hn; simp [hn]
      · simp [e]
    rw [this] at e
    simp at e
  · intro e
    refine Classical.byContradiction fun hn => ?_
    have h0 : m &&& BitVec.twoPow 128 n = 0 := by simpa using hn
    have := congrArg (fun v => v.getLsbD n) h0
    simp only [BitVec.getLsbD_and, BitVec.getLsbD_twoPow, e] at this
    simp [h] at this

def mOfM (l : List Int) : Mask := (mOf l).getD 0
def mOfE (l : List Int) : Int := if (mOf l).isSome then 0 else 2
def mWithE (m : Mask) (n : Int) : Int := if mCheck m then (if mSlot n then 0 else 2) else 200
def mDo (f : Mask → Mask → Mask) (m : Mask) (n : Int) : Mask := if mCheck m && mSlot n then f m (mBit n.toNat) else 0

/-- The first place at which p holds, or -1. -/
def idxF {α : Type} (p : α → Bool) (xs : List α) : Int := match xs.findIdx? p with | some i => (i : Int) | none => -1

/-! ### Vectors -/
abbrev Vec := List Int
def vOk (v : Vec) : Bool := decide (1 ≤ v.length) && decide (v.length ≤ 4) && v.all fun x => decide (-1073741823 ≤ x) && decide (x ≤ 1073741823)
def vCheck (v : Vec) : Int := if vOk v then 0 else 150
def vOf (v : Vec) (dim : Int) : Int := if vOk v then (if (v.length : Int) = dim then 0 else 151) else 150
def vAll (l : List Vec) : Int := if l.all vOk then (if l.all (fun v => v.length == (l.headD []).length) then 0 else 151) else 150
def vDist (a b : Vec) : Int := (a.zip b).foldl (fun n p => n + (p.1 - p.2) * (p.1 - p.2)) 0
/-- the first of the least distances: (place, distance) -/
def nearStep (v : Vec) (best : Nat × Int) (p : Vec × Nat) : Nat × Int := if vDist p.1 v < best.2 then (p.2, vDist p.1 v) else best
def nearAt (v : Vec) (l : List Vec) : Nat × Int := l.zipIdx.foldl (nearStep v) (0, vDist (l.headD []) v)
def vNear (l : List Vec) (v : Vec) : Nat := (nearAt v l).1
def vNearest (l : List Vec) (v : Vec) : Int × Int :=
  if l = [] then (0, 4) else if vAll (v :: l) = 0 then ((vNear l v : Int), 0) else (0, vAll (v :: l))

/-! ### Arenas -/
structure Ver where
  b : Int
  e : Int
  vec : Vec
  deriving DecidableEq
structure Cell where
  used : Bool
  id : Int
  ver : Ver
  deriving DecidableEq
def verOk (v : Ver) : Bool := vOk v.vec && decide (1 ≤ v.b) && decide (v.b ≤ 1099511627776) && (decide (v.e = 0) || (decide (v.b < v.e) && decide (v.e ≤ 1099511627776)))
def cellNone : Cell := ⟨false, 0, ⟨0, 0, []⟩⟩
def cellOk (c : Cell) : Bool := if c.used then verOk c.ver else (decide (c.id = 0) && decide (c.ver.b = 0) && decide (c.ver.e = 0) && decide (c.ver.vec = []))
abbrev Arena := List Cell
def arOk (a : Arena) : Bool := decide (a.length = 96) && a.all cellOk

/-! ### Lists -/
structure Lists where
  cents : List Vec
  masks : List Mask
  deriving DecidableEq
def centsOk (l : List Vec) : Bool := decide (l.length ≤ 6) && l.all fun v => decide (vOf v ((l.headD []).length : Int) = 0)
def lsDisj (ms : List Mask) : Bool := (List.range ms.length).all fun i => mCheck (ms.getD i 0) && decide (mCount (mAnds [ms.getD i 0, mOr (ms.take i)]) = 0)
def lsOk (l : Lists) : Bool := centsOk l.cents && decide (l.masks.length = l.cents.length) && lsDisj l.masks
def mWith (m : Mask) (n : Int) : Mask := if mCheck m && mSlot n then m ||| mBit n.toNat else 0
def lsPut (l : Lists) (place slot : Int) : Lists := ⟨l.cents, (List.range l.masks.length).map fun i : Nat => if (i : Int) = place then mWith (l.masks.getD i 0) slot else l.masks.getD i 0⟩
/-- Build's loop over the cells from slot s on -/
def lsFill (c : List Vec) : List Cell → Nat → Lists → Lists × Int
  | [], _, out => (out, 0)
  | x :: a, s, out => if x.used then (if (vNearest c x.ver.vec).2 = 0 then lsFill c a (s + 1) (lsPut out (vNearest c x.ver.vec).1 s) else (⟨[], []⟩, (vNearest c x.ver.vec).2)) else lsFill c a (s + 1) out
def lsBuild (a : Arena) (c : List Vec) : Lists × Int :=
  if arOk a then (if centsOk c then (if c = [] then (⟨[], []⟩, 0) else lsFill c a 0 ⟨c, List.replicate c.length 0⟩) else (⟨[], []⟩, 230)) else (⟨[], []⟩, 190)
def lsWhereFrom (slot : Int) : List Mask → Nat → Option Nat
  | [], _ => none
  | m :: ms, i => if mHas m slot then some i else lsWhereFrom slot ms (i + 1)
def lsWhere (l : Lists) (slot : Int) : Option Nat := if lsOk l then lsWhereFrom slot l.masks 0 else none
def lsUnion (l : Lists) (ps : List Int) : Mask × Int :=
  if lsOk l then (if ps.all (fun p => decide (0 ≤ p) && decide (p < l.masks.length)) then (mOr (ps.map fun p => l.masks.getD p.toNat 0), 0) else (0, 2)) else (0, 230)
def lsAgrees (l : Lists) (a : Arena) : Bool := lsOk l && arOk a && decide ((lsBuild a l.cents).2 = 0) && decide ((lsBuild a l.cents).1 = l)
def lsAdd (l : Lists) (slot : Int) (v : Vec) : Lists × Int :=
  if lsOk l then
    (if (lsWhere l slot).isSome || !mSlot slot then (⟨[], []⟩, 2)
     else if vOk v then (if l.cents = [] then (⟨[], []⟩, 0) else if (vNearest l.cents v).2 = 0 then (lsPut l (vNearest l.cents v).1 slot, 0) else (⟨[], []⟩, (vNearest l.cents v).2)) else (⟨[], []⟩, 150))
  else (⟨[], []⟩, 230)
def mMinus (a b : Mask) : Mask := (a &&& ~~~b) &&& mAll
def lsRemove (l : Lists) (out : List Int) : Lists × Int :=
  if lsOk l then (if out.all mSlot then (⟨l.cents, l.masks.map fun m => mMinus m (out.foldl (fun m n => m ||| mBit n.toNat) 0)⟩, 0) else (⟨[], []⟩, 2)) else (⟨[], []⟩, 230)

end Go.Proofs.Ytiolpknfdabijaa
