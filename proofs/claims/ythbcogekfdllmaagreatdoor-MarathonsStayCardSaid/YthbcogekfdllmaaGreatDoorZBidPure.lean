/-
  Bids and gifts of a marathon, in plain words: both sides of chapter 9's money. No Go text is named here.
-/
import Derived.Test.YthbcogekfdllmaaGreatDoorZLivePure
import Derived.Test.YthbcogekfdllmaaGreatDoorZBs
import Derived.Deep.DeepCutAuto
import Derived.Deep.CutBlock
namespace Go.Proofs.YthbcogekfdllmaaGreatDoor
open Go Go.RowKit

/-- a bid, with where its options lie -/
structure Bd where
  key : ByteArray
  before : ByteArray
  goal : Int
  oa : Option Addr
  oc : Nat
  opts : List ByteArray
def bdC (x : Bd) : List Value := [.string x.key, .string x.before, .int .i64 x.goal, .slice x.oa x.opts.length x.oc]
theorem bdC_len (x : Bd) : (bdC x).length = 4 := rfl
structure BdOk (w : World) (b : Nat) (x : Bd) : Prop where
  rd : Rd w b 1 (.slice x.oa x.opts.length x.oc) x.opts.length (strsV x.opts)
  hk : x.key.size ≤ 1000
  hb : x.before.size ≤ 1000
  hh : ∀ s ∈ x.opts, s.size ≤ 1000
  hn : x.opts.length ≤ 1000
  hg : -2199023255552 ≤ x.goal ∧ x.goal ≤ 2199023255552
theorem BdOk.bx {w w' : World} {b : Nat} {x : Bd} (h : BdOk w b x) (k : Bx w.heap.size b w w') : BdOk w' b x := ⟨h.rd.bx k, h.hk, h.hb, h.hh, h.hn, h.hg⟩
theorem BdOk.below {w w' : World} {b : Nat} {x : Bd} (h : BdOk w b x) (k : Below w.heap.size w w') : BdOk w' b x := h.bx (Bx.of_below k b)
/-- bids in memory -/
structure Bds (w : World) (b : Nat) (A : Option Addr) (n c : Nat) (xs : List Bd) : Prop where
  rd : Rd w b 4 (.slice A n c) n (xs.flatMap bdC)
  ok : ∀ x ∈ xs, BdOk w b x
theorem Bds.bx {w w' : World} {b n c : Nat} {A : Option Addr} {xs : List Bd} (h : Bds w b A n c xs) (k : Bx w.heap.size b w w') : Bds w' b A n c xs := ⟨h.rd.bx k, fun x hx => (h.ok x hx).bx k⟩
theorem Bds.below {w w' : World} {b n c : Nat} {A : Option Addr} {xs : List Bd} (h : Bds w b A n c xs) (k : Below w.heap.size w w') : Bds w' b A n c xs := h.bx (Bx.of_below k b)

/-- what is wrong with a bid by itself -/
def bidE (x : Bd) : Int := if decide (0 < x.opts.length) = decide (x.goal ≠ 0) then 3 else if outB x.goal 0 1000000000 = true then 1 else if 20 < x.opts.length then 2 else riseF x.opts
def bidsG (xs : List Slt) : ByteArray → List Bd → Int
  | _, [] => 0
  | last, x :: bs => if keyB x.key.data.toList = false then 5 else if leS x.key last = true then 7 else if findL xs x.before < 0 then 8 else if bidE x = 0 then bidsG xs x.key bs else bidE x
def bidsF (xs : List Slt) (bs : List Bd) : Int := if slotsF xs = 0 then if 200 < bs.length then 2 else bidsG xs ⟨#[]⟩ bs else slotsF xs
/-- whom a bid stands behind -/
def lastB (bs : List Bd) (k : Nat) : ByteArray := match k with | 0 => ⟨#[]⟩ | k + 1 => match bs[k]? with | some r => r.key | none => ⟨#[]⟩
theorem bidsG_step (xs : List Slt) (bs : List Bd) (k : Nat) (hk : k < bs.length) : bidsG xs (lastB bs k) (bs.drop k) =
    if keyB bs[k].key.data.toList = false then 5 else if leS bs[k].key (lastB bs k) = true then 7 else if findL xs bs[k].before < 0 then 8 else if bidE bs[k] = 0 then bidsG xs (lastB bs (k + 1)) (bs.drop (k + 1)) else bidE bs[k] := by
  rw [List.drop_eq_getElem_cons hk, bidsG]
  have : lastB bs (k + 1) = bs[k].key := by simp [lastB, hk]
  rw [this]
theorem lastB_succ (bs : List Bd) (k : Nat) (hk : k < bs.length) : lastB bs (k + 1) = bs[k].key := by simp [lastB, hk]

/-- a gift -/
structure Gf where
  id : ByteArray
  at_ : Int
  cents : Int
  bid : ByteArray
  option : ByteArray
def gfC (x : Gf) : List Value := [.string x.id, .int .i64 x.at_, .int .i64 x.cents, .string x.bid, .string x.option]
theorem gfC_len (x : Gf) : (gfC x).length = 5 := rfl
structure GfOk (x : Gf) : Prop where
  hi : x.id.size ≤ 1000
  hb : x.bid.size ≤ 1000
  ho : x.option.size ≤ 1000
  ha : -2199023255552 ≤ x.at_ ∧ x.at_ ≤ 2199023255552
  hc : -2199023255552 ≤ x.cents ∧ x.cents ≤ 2199023255552
def bidAt (bs : List Bd) (key : ByteArray) : Int := ixOf (fun x => eqS x.key key) bs
def optE (opts : List ByteArray) (o : ByteArray) : Int := if opts = [] then (if eqS o ⟨#[]⟩ = true then 0 else 8) else if memS opts o = true then 0 else 8
/-- what is wrong with what a gift is for -/
def namedF (bs : List Bd) (x : Gf) : Int :=
  if eqS x.bid ⟨#[]⟩ = true then optE [] x.option else match bs[(bidAt bs x.bid).toNat]? with
    | none => 8
    | some y => if bidAt bs x.bid < 0 then 8 else optE y.opts x.option
/-- is a gift not behind another one? -/
def behG (y x : Gf) : Bool := decide (x.at_ < y.at_) || (decide (x.at_ = y.at_) && leS x.id y.id)
def lateG (pv : Option Gf) (x : Gf) : Bool := match pv with | none => false | some y => behG y x
def giftE (t : Gf → Int) (pv : Option Gf) (x : Gf) : Int :=
  if keyB x.id.data.toList = false then 5 else if (!momB x.at_ || outB x.cents 1 1000000000) = true then 1 else if t x = 0 then (if lateG pv x = true then 7 else 0) else t x
def giftsG (t : Gf → Int) : Option Gf → List Gf → Int
  | _, [] => 0
  | pv, x :: gs => if giftE t pv x = 0 then giftsG t (some x) gs else giftE t pv x
/-- is an id there twice among the first k? -/
def dupTo (gs : List Gf) : Nat → Bool
  | 0 => false
  | k + 1 => match gs[k]? with
    | none => dupTo gs k
    | some x => dupTo gs k || (gs.take k).any (fun o => eqS o.id x.id)
def giftsF (t : Gf → Int) (gs : List Gf) : Int := if 2000 < gs.length then 2 else if giftsG t none gs = 0 then (if dupTo gs gs.length = true then 6 else 0) else giftsG t none gs
def prevG (gs : List Gf) (k : Nat) : Option Gf := match k with
  | 0 => none
  | k + 1 => gs[k]?
theorem giftsG_step (t : Gf → Int) (gs : List Gf) (k : Nat) (hk : k < gs.length) : giftsG t (prevG gs k) (gs.drop k) = if giftE t (prevG gs k) gs[k] = 0 then giftsG t (prevG gs (k + 1)) (gs.drop (k + 1)) else giftE t (prevG gs k) gs[k] := by
  have hp : prevG gs (k + 1) = some gs[k] := by simp [prevG, List.getElem?_eq_getElem hk]
  rw [List.drop_eq_getElem_cons hk, giftsG, hp]
theorem dupTo_step (gs : List Gf) (k : Nat) (hk : k < gs.length) : dupTo gs (k + 1) = (dupTo gs k || (gs.take k).any (fun o => eqS o.id gs[k].id)) := by
  rw [dupTo, List.getElem?_eq_getElem hk]

/-! ### what a bid has come to -/
def hitB (key : ByteArray) (before : Int) (x : Gf) : Bool := eqS x.bid key && decide (x.at_ < before)
def updZ (f : ByteArray → Option Int) (s : ByteArray) (v : Int) : ByteArray → Option Int := fun t => if t = s then some v else f t
/-- of each option what it has, and by which gift it came to this -/
def wonC (key : ByteArray) (before : Int) (gs : List Gf) : Nat → ByteArray → Option Int
  | 0 => fun _ => none
  | k + 1 => match gs[k]? with
    | none => wonC key before gs k
    | some x => if hitB key before x = true then updZ (wonC key before gs k) x.option (((wonC key before gs k) x.option).getD 0 + x.cents) else wonC key before gs k
def wonL (key : ByteArray) (before : Int) (gs : List Gf) : Nat → ByteArray → Option Int
  | 0 => fun _ => none
  | k + 1 => match gs[k]? with
    | none => wonL key before gs k
    | some x => if hitB key before x = true then updZ (wonL key before gs k) x.option k else wonL key before gs k
theorem wonC_step (key : ByteArray) (before : Int) (gs : List Gf) (k : Nat) (hk : k < gs.length) : wonC key before gs (k + 1) = if hitB key before gs[k] = true then updZ (wonC key before gs k) gs[k].option (((wonC key before gs k) gs[k].option).getD 0 + gs[k].cents) else wonC key before gs k := by
  rw [wonC, List.getElem?_eq_getElem hk]
theorem wonL_step (key : ByteArray) (before : Int) (gs : List Gf) (k : Nat) (hk : k < gs.length) : wonL key before gs (k + 1) = if hitB key before gs[k] = true then updZ (wonL key before gs k) gs[k].option k else wonL key before gs k := by
  rw [wonL, List.getElem?_eq_getElem hk]
/-- is an option better than the best one so far? -/
def betB (C L : ByteArray → Int) (best s : ByteArray) : Bool := decide (C best < C s) || (decide (0 < C s) && (decide (C s = C best) && decide (L s < L best)))
def bestTo (C L : ByteArray → Int) (opts : List ByteArray) (k : Nat) : ByteArray := (opts.take k).foldl (fun best s => if betB C L best s = true then s else best) ⟨#[]⟩
theorem bestTo_step (C L : ByteArray → Int) (opts : List ByteArray) (k : Nat) (hk : k < opts.length) : bestTo C L opts (k + 1) = if betB C L (bestTo C L opts k) opts[k] = true then opts[k] else bestTo C L opts k := by
  unfold bestTo
  rw [List.take_succ_eq_append_getElem hk, List.foldl_append]
  rfl
/-- what the program answers: name, cents, is it won? -/
def wonP (x : Bd) (gs : List Gf) (before : Int) : ByteArray × Int × Bool :=
  let C := fun s => (wonC x.key before gs gs.length s).getD 0
  let L := fun s => (wonL x.key before gs gs.length s).getD 0
  if x.opts = [] then (⟨#[]⟩, C ⟨#[]⟩, decide (x.goal ≤ C ⟨#[]⟩)) else (bestTo C L x.opts x.opts.length, C (bestTo C L x.opts x.opts.length), !eqS (bestTo C L x.opts x.opts.length) ⟨#[]⟩)

/-- what came about -/
def bnameB (s : ByteArray) (ok : Bool) : ByteArray := if ok = false then ⟨#[110, 111]⟩ else if eqS s ⟨#[]⟩ = true then ⟨#[121, 101, 115]⟩ else s
end Go.Proofs.YthbcogekfdllmaaGreatDoor
/-
  Bids of the stream by a contract.
-/
namespace Go.Proofs.YthbcogekfdllmaaGreatDoor
open Go Go.RowKit
attribute [local go_sem ↓] Go.wp_at_zero Go.wp_at_succ

theorem info_bid : (Tryz.prog.info? 77).map (fun i => (i.zero, i.size, i.bytes)) = some (some (.agg #[.string ⟨#[]⟩, .string ⟨#[]⟩, .int .i64 0, .slice none 0 0]), 4, 64) := by kernel_rfl
/-- the options of a bid, in memory of the call's own -/
def bidR (base : Nat) (x : Bd) : Rsc := rOwn base 9 1 (.slice x.oa x.opts.length x.oc) x.opts.length (strsV x.opts)
theorem bidR_ok (base : Nat) (x : Bd) : (bidR base x).Ok := rOwn_ok _ _ _ _ _ _
structure BdZ (x : Bd) : Prop where
  hk : x.key.size ≤ 1000
  hb : x.before.size ≤ 1000
  hh : ∀ s ∈ x.opts, s.size ≤ 1000
  hn : x.opts.length ≤ 4
  hg : -2199023255552 ≤ x.goal ∧ x.goal ≤ 2199023255552
def BdZs (xs : List Bd) : Prop := ∀ x ∈ xs, BdZ x
theorem BdZs.snoc {xs : List Bd} {x : Bd} (h : BdZs xs) (hx : BdZ x) : BdZs (xs ++ [x]) := by
  intro y hy
  rcases List.mem_append.1 hy with hy | hy
  · exact h y hy
  · simp at hy; subst hy; exact hx
theorem one4b {x y z u : Value} (hx : x.oneCell' = true) (hy : y.oneCell' = true) (hz : z.oneCell' = true) (hu : u.oneCell' = true) : ∀ v ∈ [x, y, z, u], v.oneCell' = true := by
  intro v hv
  simp at hv
  rcases hv with rfl | rfl | rfl | rfl <;> assumption
theorem bdZ {k z : ByteArray} {go : Int} {oa : Option Addr} {oc : Nat} {opts : List ByteArray} (h1 : k.size ≤ 1000) (h2 : z.size ≤ 1000) (h3 : ∀ s ∈ opts, s.size ≤ 1000) (h4 : opts.length ≤ 4) (h5 : -2199023255552 ≤ go ∧ go ≤ 2199023255552) : BdZ ⟨k, z, go, oa, oc, opts⟩ := ⟨h1, h2, h3, h4, h5⟩
theorem strsV_snoc2 (l : List ByteArray) (k : ByteArray) : strsV (l ++ [k]) = strsV l ++ [.string k] := by simp [strsV]
end Go.Proofs.YthbcogekfdllmaaGreatDoor
