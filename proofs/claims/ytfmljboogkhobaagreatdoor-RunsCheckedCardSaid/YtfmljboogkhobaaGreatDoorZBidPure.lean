/-
  Bids and gifts of a marathon, in plain words: both sides of chapter 9's money. No Go text is named here.
-/
import Derived.Test.YtfmljboogkhobaaGreatDoorZLivePure
namespace Go.Proofs.YtfmljboogkhobaaGreatDoor
open Go Go.RowKit

/-- a bid, with where its options lie -/
structure Bd where
  key : ByteArray
  before : ByteArray
  goal : Int
  oa : Option Addr
  oc : Nat
  opts : List ByteArray
def bdC (x : Bd) : List Value := [.string x.key, .string x.before, .int .i64 x.goal, .slice x.oa x.opts.length x.oc]
theorem bdC_len (x : Bd) : (bdC x).length = 4 := rfl
def bdV (x : Bd) : Value := .agg #[.string x.key, .string x.before, .int .i64 x.goal, .slice x.oa x.opts.length x.oc]
structure BdOk (w : World) (b : Nat) (x : Bd) : Prop where
  rd : Rd w b 1 (.slice x.oa x.opts.length x.oc) x.opts.length (strsV x.opts)
  hk : x.key.size ≤ 1000
  hb : x.before.size ≤ 1000
  hh : ∀ s ∈ x.opts, s.size ≤ 1000
  hn : x.opts.length ≤ 1000
  hg : -2199023255552 ≤ x.goal ∧ x.goal ≤ 2199023255552
theorem BdOk.bx {w w' : World} {b : Nat} {x : Bd} (h : BdOk w b x) (k : Bx w.heap.size b w w') : BdOk w' b x := ⟨h.rd.bx k, h.hk, h.hb, h.hh, h.hn, h.hg⟩
theorem BdOk.below {w w' : World} {b : Nat} {x : Bd} (h : BdOk w b x) (k : Below w.heap.size w w') : BdOk w' b x := h.bx (Bx.of_below k b)
/-- bids in memory -/
structure Bds (w : World) (b : Nat) (A : Option Addr) (n c : Nat) (xs : List Bd) : Prop where
  rd : Rd w b 4 (.slice A n c) n (xs.flatMap bdC)
  ok : ∀ x ∈ xs, BdOk w b x
theorem Bds.bx {w w' : World} {b n c : Nat} {A : Option Addr} {xs : List Bd} (h : Bds w b A n c xs) (k : Bx w.heap.size b w w') : Bds w' b A n c xs := ⟨h.rd.bx k, fun x hx => (h.ok x hx).bx k⟩
theorem Bds.below {w w' : World} {b n c : Nat} {A : Option Addr} {xs : List Bd} (h : Bds w b A n c xs) (k : Below w.heap.size w w') : Bds w' b A n c xs := h.bx (Bx.of_below k b)

/-- what is wrong with a bid by itself -/
def bidE (x : Bd) : Int := if decide (0 < x.opts.length) = decide (x.goal ≠ 0) then 3 else if outB x.goal 0 1000000000 = true then 1 else if 20 < x.opts.length then 2 else riseF x.opts
def bidsG (xs : List Slt) : ByteArray → List Bd → Int
  | _, [] => 0
  | last, x :: bs => if keyB x.key.data.toList = false then 5 else if leS x.key last = true then 7 else if findL xs x.before < 0 then 8 else if bidE x = 0 then bidsG xs x.key bs else bidE x
def bidsF (xs : List Slt) (bs : List Bd) : Int := if slotsF xs = 0 then if 200 < bs.length then 2 else bidsG xs ⟨#[]⟩ bs else slotsF xs
/-- whom a bid stands behind -/
def lastB (bs : List Bd) (k : Nat) : ByteArray := match k with | 0 => ⟨#[]⟩ | k + 1 => match bs[k]? with | some r => r.key | none => ⟨#[]⟩
theorem bidsG_step (xs : List Slt) (bs : List Bd) (k : Nat) (hk : k < bs.length) : bidsG xs (lastB bs k) (bs.drop k) =
    if keyB bs[k].key.data.toList = false then 5 else if leS bs[k].key (lastB bs k) = true then 7 else if findL xs bs[k].before < 0 then 8 else if bidE bs[k] = 0 then bidsG xs (lastB bs (k + 1)) (bs.drop (k + 1)) else bidE bs[k] := by
  rw [List.drop_eq_getElem_cons hk, bidsG]
  have : lastB bs (k + 1) = bs[k].key := by simp [lastB, hk]
  rw [this]
theorem lastB_succ (bs : List Bd) (k : Nat) (hk : k < bs.length) : lastB bs (k + 1) = bs[k].key := by simp [lastB, hk]

/-- a gift -/
structure Gf where
  id : ByteArray
  at_ : Int
  cents : Int
  bid : ByteArray
  option : ByteArray
def gfC (x : Gf) : List Value := [.string x.id, .int .i64 x.at_, .int .i64 x.cents, .string x.bid, .string x.option]
theorem gfC_len (x : Gf) : (gfC x).length = 5 := rfl
def gfV (x : Gf) : Value := .agg #[.string x.id, .int .i64 x.at_, .int .i64 x.cents, .string x.bid, .string x.option]
structure GfOk (x : Gf) : Prop where
  hi : x.id.size ≤ 1000
  hb : x.bid.size ≤ 1000
  ho : x.option.size ≤ 1000
  ha : -2199023255552 ≤ x.at_ ∧ x.at_ ≤ 2199023255552
  hc : -2199023255552 ≤ x.cents ∧ x.cents ≤ 2199023255552
def bidAt (bs : List Bd) (key : ByteArray) : Int := ixOf (fun x => eqS x.key key) bs
def optE (opts : List ByteArray) (o : ByteArray) : Int := if opts = [] then (if eqS o ⟨#[]⟩ = true then 0 else 8) else if memS opts o = true then 0 else 8
/-- what is wrong with what a gift is for -/
def namedF (bs : List Bd) (x : Gf) : Int :=
  if eqS x.bid ⟨#[]⟩ = true then optE [] x.option else match bs[(bidAt bs x.bid).toNat]? with
    | none => 8
    | some y => if bidAt bs x.bid < 0 then 8 else optE y.opts x.option
/-- is a gift not behind another one? -/
def behG (y x : Gf) : Bool := decide (x.at_ < y.at_) || (decide (x.at_ = y.at_) && leS x.id y.id)
def lateG (pv : Option Gf) (x : Gf) : Bool := match pv with | none => false | some y => behG y x
def giftE (t : Gf → Int) (pv : Option Gf) (x : Gf) : Int :=
  if keyB x.id.data.toList = false then 5 else if (!momB x.at_ || outB x.cents 1 1000000000) = true then 1 else if t x = 0 then (if lateG pv x = true then 7 else 0) else t x
def giftsG (t : Gf → Int) : Option Gf → List Gf → Int
  | _, [] => 0
  | pv, x :: gs => if giftE t pv x = 0 then giftsG t (some x) gs else giftE t pv x
/-- is an id there twice among the first k? -/
def dupTo (gs : List Gf) : Nat → Bool
  | 0 => false
  | k + 1 => match gs[k]? with
    | none => dupTo gs k
    | some x => dupTo gs k || (gs.take k).any (fun o => eqS o.id x.id)
def giftsF (t : Gf → Int) (gs : List Gf) : Int := if 2000 < gs.length then 2 else if giftsG t none gs = 0 then (if dupTo gs gs.length = true then 6 else 0) else giftsG t none gs
def prevG (gs : List Gf) (k : Nat) : Option Gf := match k with
  | 0 => none
  | k + 1 => gs[k]?
theorem giftsG_step (t : Gf → Int) (gs : List Gf) (k : Nat) (hk : k < gs.length) : giftsG t (prevG gs k) (gs.drop k) = if giftE t (prevG gs k) gs[k] = 0 then giftsG t (prevG gs (k + 1)) (gs.drop (k + 1)) else giftE t (prevG gs k) gs[k] := by
  have hp : prevG gs (k + 1) = some gs[k] := by simp [prevG, List.getElem?_eq_getElem hk]
  rw [List.drop_eq_getElem_cons hk, giftsG, hp]
theorem dupTo_step (gs : List Gf) (k : Nat) (hk : k < gs.length) : dupTo gs (k + 1) = (dupTo gs k || (gs.take k).any (fun o => eqS o.id gs[k].id)) := by
  rw [dupTo, List.getElem?_eq_getElem hk]

/-! ### what a bid has come to -/
def hitB (key : ByteArray) (before : Int) (x : Gf) : Bool := eqS x.bid key && decide (x.at_ < before)
def updZ (f : ByteArray → Option Int) (s : ByteArray) (v : Int) : ByteArray → Option Int := fun t => if t = s then some v else f t
/-- of each option what it has, and by which gift it came to this -/
def wonC (key : ByteArray) (before : Int) (gs : List Gf) : Nat → ByteArray → Option Int
  | 0 => fun _ => none
  | k + 1 => match gs[k]? with
    | none => wonC key before gs k
    | some x => if hitB key before x = true then updZ (wonC key before gs k) x.option (((wonC key before gs k) x.option).getD 0 + x.cents) else wonC key before gs k
def wonL (key : ByteArray) (before : Int) (gs : List Gf) : Nat → ByteArray → Option Int
  | 0 => fun _ => none
  | k + 1 => match gs[k]? with
    | none => wonL key before gs k
    | some x => if hitB key before x = true then updZ (wonL key before gs k) x.option k else wonL key before gs k
theorem wonC_step (key : ByteArray) (before : Int) (gs : List Gf) (k : Nat) (hk : k < gs.length) : wonC key before gs (k + 1) = if hitB key before gs[k] = true then updZ (wonC key before gs k) gs[k].option (((wonC key before gs k) gs[k].option).getD 0 + gs[k].cents) else wonC key before gs k := by
  rw [wonC, List.getElem?_eq_getElem hk]
theorem wonL_step (key : ByteArray) (before : Int) (gs : List Gf) (k : Nat) (hk : k < gs.length) : wonL key before gs (k + 1) = if hitB key before gs[k] = true then updZ (wonL key before gs k) gs[k].option k else wonL key before gs k := by
  rw [wonL, List.getElem?_eq_getElem hk]
/-- is an option better than the best one so far? -/
def betB (C L : ByteArray → Int) (best s : ByteArray) : Bool := decide (C best < C s) || (decide (0 < C s) && (decide (C s = C best) && decide (L s < L best)))
def bestTo (C L : ByteArray → Int) (opts : List ByteArray) (k : Nat) : ByteArray := (opts.take k).foldl (fun best s => if betB C L best s = true then s else best) ⟨#[]⟩
theorem bestTo_step (C L : ByteArray → Int) (opts : List ByteArray) (k : Nat) (hk : k < opts.length) : bestTo C L opts (k + 1) = if betB C L (bestTo C L opts k) opts[k] = true then opts[k] else bestTo C L opts k := by
  unfold bestTo
  rw [List.take_succ_eq_append_getElem hk, List.foldl_append]
  rfl
/-- what the program answers: name, cents, is it won? -/
def wonP (x : Bd) (gs : List Gf) (before : Int) : ByteArray × Int × Bool :=
  let C := fun s => (wonC x.key before gs gs.length s).getD 0
  let L := fun s => (wonL x.key before gs gs.length s).getD 0
  if x.opts = [] then (⟨#[]⟩, C ⟨#[]⟩, decide (x.goal ≤ C ⟨#[]⟩)) else (bestTo C L x.opts x.opts.length, C (bestTo C L x.opts x.opts.length), !eqS (bestTo C L x.opts x.opts.length) ⟨#[]⟩)

/-- the gifts that count, by the reference -/
def keepG (key : ByteArray) (at_ : Int) (x : Gf) : Bool := !(decide (at_ < x.at_) || !eqS x.bid key)
def ownG (key : ByteArray) (at_ : Int) (gs : List Gf) : List Gf := gs.filter (keepG key at_)
def totTo (gs : List Gf) (at_ : Int) : Nat → Int
  | 0 => 0
  | k + 1 => match gs[k]? with
    | none => totTo gs at_ k
    | some x => if x.at_ ≤ at_ then totTo gs at_ k + x.cents else totTo gs at_ k
def optTo (gs : List Gf) (o : ByteArray) : Nat → Int × Int
  | 0 => (0, -1)
  | k + 1 => match gs[k]? with
    | none => optTo gs o k
    | some x => if eqS x.option o = true then ((optTo gs o k).1 + x.cents, k) else optTo gs o k
def optQ (gs : List Gf) (o : ByteArray) : Int × Int := optTo gs o gs.length
structure BestQ where
  best : ByteArray
  most : Int
  when : Int
def betQ (B : BestQ) (n last : Int) : Bool := decide (B.most < n) || (decide (n = B.most) && (decide (0 < n) && decide (last < B.when)))
def bestQ (gs : List Gf) (opts : List ByteArray) (k : Nat) : BestQ := (opts.take k).foldl (fun B o => if betQ B (optQ gs o).1 (optQ gs o).2 = true then ⟨o, (optQ gs o).1, (optQ gs o).2⟩ else B) ⟨⟨#[]⟩, 0, 0⟩
theorem bestQ_step (gs : List Gf) (opts : List ByteArray) (k : Nat) (hk : k < opts.length) : bestQ gs opts (k + 1) = if betQ (bestQ gs opts k) (optQ gs opts[k]).1 (optQ gs opts[k]).2 = true then ⟨opts[k], (optQ gs opts[k]).1, (optQ gs opts[k]).2⟩ else bestQ gs opts k := by
  unfold bestQ
  rw [List.take_succ_eq_append_getElem hk, List.foldl_append]
  rfl
def wonQ (x : Bd) (gs : List Gf) (at_ : Int) : ByteArray × Int × Bool :=
  let g := ownG x.key at_ gs
  if x.opts = [] then (⟨#[]⟩, totTo g at_ g.length, decide (x.goal ≤ totTo g at_ g.length)) else ((bestQ g x.opts x.opts.length).best, (bestQ g x.opts x.opts.length).most, decide (0 < (bestQ g x.opts x.opts.length).most))
theorem totTo_step (gs : List Gf) (at_ : Int) (k : Nat) (hk : k < gs.length) : totTo gs at_ (k + 1) = if gs[k].at_ ≤ at_ then totTo gs at_ k + gs[k].cents else totTo gs at_ k := by
  rw [totTo, List.getElem?_eq_getElem hk]
theorem optTo_step (gs : List Gf) (o : ByteArray) (k : Nat) (hk : k < gs.length) : optTo gs o (k + 1) = if eqS gs[k].option o = true then ((optTo gs o k).1 + gs[k].cents, (k : Int)) else optTo gs o k := by
  rw [optTo, List.getElem?_eq_getElem hk]
/-- what came about -/
def bnameB (s : ByteArray) (ok : Bool) : ByteArray := if ok = false then ⟨#[110, 111]⟩ else if eqS s ⟨#[]⟩ = true then ⟨#[121, 101, 115]⟩ else s
end Go.Proofs.YtfmljboogkhobaaGreatDoor
