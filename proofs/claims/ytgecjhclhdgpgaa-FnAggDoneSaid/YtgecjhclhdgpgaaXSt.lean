import Derived.Test.YtgecjhclhdgpgaaXQ
set_option linter.unusedVariables false
set_option linter.unusedSimpArgs false
namespace Go.Ax
open Go

structure Wide where
  hi : Int
  lo : U64
  deriving Inhabited, DecidableEq
instance : Cells Wide := Cells.iso (τ := Int × U64) (fun s => (s.hi, s.lo)) (fun t => ⟨t.1, t.2⟩) (fun _ => rfl) (fun _ => rfl)
instance : Enc Wide := Enc.agg
theorem e_Wide (a : Wide) : (Enc.e a : AV) = .agg [.lit (.int .i64 a.hi), .lit (.int .u64 a.lo.n)] := (rfl)
theorem w_Wide : Enc.w Wide = 2 := (rfl)
theorem dc_Wide : (@Cells.dc Wide _) = dcIso (fun t => ⟨t.1, t.2⟩) (dcPair (dcOne (α := Int)) (dcOne (α := U64))) := (rfl)
theorem d_Wide : (@Enc.d Wide _) = dAgg Cells.dc := (rfl)

structure Agg where
  n : Int
  sum : Wide
  min : Int
  max : Int
  top : List Int
  deriving Inhabited, DecidableEq
instance : Cells Agg := Cells.iso (τ := Int × Wide × Int × Int × List Int) (fun s => (s.n, s.sum, s.min, s.max, s.top)) (fun t => ⟨t.1, t.2.1, t.2.2.1, t.2.2.2.1, t.2.2.2.2⟩) (fun _ => rfl) (fun _ => rfl)
instance : Enc Agg := Enc.agg
theorem e_Agg (a : Agg) : (Enc.e a : AV) = .agg [.lit (.int .i64 a.n), .lit (.int .i64 a.sum.hi), .lit (.int .u64 a.sum.lo.n), .lit (.int .i64 a.min), .lit (.int .i64 a.max), .sl 1 (encL Enc.e a.top)] := (rfl)
theorem w_Agg : Enc.w Agg = 6 := (rfl)
theorem dc_Agg : (@Cells.dc Agg _) = dcIso (fun t => ⟨t.1, t.2.1, t.2.2.1, t.2.2.2.1, t.2.2.2.2⟩) (dcPair (dcOne (α := Int)) (dcPair (@Cells.dc Wide _) (dcPair (dcOne (α := Int)) (dcPair (dcOne (α := Int)) (dcOne (α := List Int)))))) := (rfl)
theorem d_Agg : (@Enc.d Agg _) = dAgg Cells.dc := (rfl)

structure Win where
  from_ : Int
  to : Int
  deriving Inhabited, DecidableEq
instance : Cells Win := Cells.iso (τ := Int × Int) (fun s => (s.from_, s.to)) (fun t => ⟨t.1, t.2⟩) (fun _ => rfl) (fun _ => rfl)
instance : Enc Win := Enc.agg
theorem e_Win (a : Win) : (Enc.e a : AV) = .agg [.lit (.int .i64 a.from_), .lit (.int .i64 a.to)] := (rfl)
theorem w_Win : Enc.w Win = 2 := (rfl)
theorem dc_Win : (@Cells.dc Win _) = dcIso (fun t => ⟨t.1, t.2⟩) (dcPair (dcOne (α := Int)) (dcOne (α := Int))) := (rfl)
theorem d_Win : (@Enc.d Win _) = dAgg Cells.dc := (rfl)

structure Pane where
  query : Int
  key : Int
  from_ : Int
  to : Int
  label : Int
  n : Int
  vals : List Int
  over : Bool
  deriving Inhabited, DecidableEq
instance : Cells Pane := Cells.iso (τ := Int × Int × Int × Int × Int × Int × List Int × Bool) (fun s => (s.query, s.key, s.from_, s.to, s.label, s.n, s.vals, s.over)) (fun t => ⟨t.1, t.2.1, t.2.2.1, t.2.2.2.1, t.2.2.2.2.1, t.2.2.2.2.2.1, t.2.2.2.2.2.2.1, t.2.2.2.2.2.2.2⟩) (fun _ => rfl) (fun _ => rfl)
instance : Enc Pane := Enc.agg
theorem e_Pane (a : Pane) : (Enc.e a : AV) = .agg [.lit (.int .i64 a.query), .lit (.int .i64 a.key), .lit (.int .i64 a.from_), .lit (.int .i64 a.to), .lit (.int .i64 a.label), .lit (.int .i64 a.n), .sl 1 (encL Enc.e a.vals), .lit (.bool a.over)] := (rfl)
theorem w_Pane : Enc.w Pane = 8 := (rfl)
theorem dc_Pane : (@Cells.dc Pane _) = dcIso (fun t => ⟨t.1, t.2.1, t.2.2.1, t.2.2.2.1, t.2.2.2.2.1, t.2.2.2.2.2.1, t.2.2.2.2.2.2.1, t.2.2.2.2.2.2.2⟩) (dcPair (dcOne (α := Int)) (dcPair (dcOne (α := Int)) (dcPair (dcOne (α := Int)) (dcPair (dcOne (α := Int)) (dcPair (dcOne (α := Int)) (dcPair (dcOne (α := Int)) (dcPair (dcOne (α := List Int)) (dcOne (α := Bool))))))))) := (rfl)
theorem d_Pane : (@Enc.d Pane _) = dAgg Cells.dc := (rfl)

structure Item where
  seq : Int
  rule : Int
  pane : Pane
  deriving Inhabited, DecidableEq
instance : Cells Item := Cells.iso (τ := Int × Int × Pane) (fun s => (s.seq, s.rule, s.pane)) (fun t => ⟨t.1, t.2.1, t.2.2⟩) (fun _ => rfl) (fun _ => rfl)
instance : Enc Item := Enc.agg
theorem e_Item (a : Item) : (Enc.e a : AV) = .agg [.lit (.int .i64 a.seq), .lit (.int .i64 a.rule), .lit (.int .i64 a.pane.query), .lit (.int .i64 a.pane.key), .lit (.int .i64 a.pane.from_), .lit (.int .i64 a.pane.to), .lit (.int .i64 a.pane.label), .lit (.int .i64 a.pane.n), .sl 1 (encL Enc.e a.pane.vals), .lit (.bool a.pane.over)] := (rfl)
theorem w_Item : Enc.w Item = 10 := (rfl)
theorem dc_Item : (@Cells.dc Item _) = dcIso (fun t => ⟨t.1, t.2.1, t.2.2⟩) (dcPair (dcOne (α := Int)) (dcPair (dcOne (α := Int)) (@Cells.dc Pane _))) := (rfl)
theorem d_Item : (@Enc.d Item _) = dAgg Cells.dc := (rfl)

structure Rec where
  seq : Int
  rule : Int
  label : Int
  deriving Inhabited, DecidableEq
instance : Cells Rec := Cells.iso (τ := Int × Int × Int) (fun s => (s.seq, s.rule, s.label)) (fun t => ⟨t.1, t.2.1, t.2.2⟩) (fun _ => rfl) (fun _ => rfl)
instance : Enc Rec := Enc.agg
theorem e_Rec (a : Rec) : (Enc.e a : AV) = .agg [.lit (.int .i64 a.seq), .lit (.int .i64 a.rule), .lit (.int .i64 a.label)] := (rfl)
theorem w_Rec : Enc.w Rec = 3 := (rfl)
theorem dc_Rec : (@Cells.dc Rec _) = dcIso (fun t => ⟨t.1, t.2.1, t.2.2⟩) (dcPair (dcOne (α := Int)) (dcPair (dcOne (α := Int)) (dcOne (α := Int)))) := (rfl)
theorem d_Rec : (@Enc.d Rec _) = dAgg Cells.dc := (rfl)

structure Box where
  cap : Int
  audit : Int
  next : Int
  gaps : Int
  items : List Item
  recs : List Rec
  deriving Inhabited, DecidableEq
instance : Cells Box := Cells.iso (τ := Int × Int × Int × Int × List Item × List Rec) (fun s => (s.cap, s.audit, s.next, s.gaps, s.items, s.recs)) (fun t => ⟨t.1, t.2.1, t.2.2.1, t.2.2.2.1, t.2.2.2.2.1, t.2.2.2.2.2⟩) (fun _ => rfl) (fun _ => rfl)
instance : Enc Box := Enc.agg
theorem e_Box (a : Box) : (Enc.e a : AV) = .agg [.lit (.int .i64 a.cap), .lit (.int .i64 a.audit), .lit (.int .i64 a.next), .lit (.int .i64 a.gaps), .sl 10 (encL Enc.e a.items), .sl 3 (encL Enc.e a.recs)] := (rfl)
theorem w_Box : Enc.w Box = 6 := (rfl)
theorem dc_Box : (@Cells.dc Box _) = dcIso (fun t => ⟨t.1, t.2.1, t.2.2.1, t.2.2.2.1, t.2.2.2.2.1, t.2.2.2.2.2⟩) (dcPair (dcOne (α := Int)) (dcPair (dcOne (α := Int)) (dcPair (dcOne (α := Int)) (dcPair (dcOne (α := Int)) (dcPair (dcOne (α := List Item)) (dcOne (α := List Rec))))))) := (rfl)
theorem d_Box : (@Enc.d Box _) = dAgg Cells.dc := (rfl)

structure Lat where
  n : Int
  up : List U64
  deriving Inhabited, DecidableEq
instance : Cells Lat := Cells.iso (τ := Int × List U64) (fun s => (s.n, s.up)) (fun t => ⟨t.1, t.2⟩) (fun _ => rfl) (fun _ => rfl)
instance : Enc Lat := Enc.agg
theorem e_Lat (a : Lat) : (Enc.e a : AV) = .agg [.lit (.int .i64 a.n), .sl 1 (encL Enc.e a.up)] := (rfl)
theorem w_Lat : Enc.w Lat = 2 := (rfl)
theorem dc_Lat : (@Cells.dc Lat _) = dcIso (fun t => ⟨t.1, t.2⟩) (dcPair (dcOne (α := Int)) (dcOne (α := List U64))) := (rfl)
theorem d_Lat : (@Enc.d Lat _) = dAgg Cells.dc := (rfl)

structure Edge where
  lo : Int
  hi : Int
  deriving Inhabited, DecidableEq
instance : Cells Edge := Cells.iso (τ := Int × Int) (fun s => (s.lo, s.hi)) (fun t => ⟨t.1, t.2⟩) (fun _ => rfl) (fun _ => rfl)
instance : Enc Edge := Enc.agg
theorem e_Edge (a : Edge) : (Enc.e a : AV) = .agg [.lit (.int .i64 a.lo), .lit (.int .i64 a.hi)] := (rfl)
theorem w_Edge : Enc.w Edge = 2 := (rfl)
theorem dc_Edge : (@Cells.dc Edge _) = dcIso (fun t => ⟨t.1, t.2⟩) (dcPair (dcOne (α := Int)) (dcOne (α := Int))) := (rfl)
theorem d_Edge : (@Enc.d Edge _) = dAgg Cells.dc := (rfl)

structure Both where
  key : Int
  from_ : Int
  to : Int
  label : Int
  n : Int
  a : List Int
  b : List Int
  deriving Inhabited, DecidableEq
instance : Cells Both := Cells.iso (τ := Int × Int × Int × Int × Int × List Int × List Int) (fun s => (s.key, s.from_, s.to, s.label, s.n, s.a, s.b)) (fun t => ⟨t.1, t.2.1, t.2.2.1, t.2.2.2.1, t.2.2.2.2.1, t.2.2.2.2.2.1, t.2.2.2.2.2.2⟩) (fun _ => rfl) (fun _ => rfl)
instance : Enc Both := Enc.agg
theorem e_Both (a : Both) : (Enc.e a : AV) = .agg [.lit (.int .i64 a.key), .lit (.int .i64 a.from_), .lit (.int .i64 a.to), .lit (.int .i64 a.label), .lit (.int .i64 a.n), .sl 1 (encL Enc.e a.a), .sl 1 (encL Enc.e a.b)] := (rfl)
theorem w_Both : Enc.w Both = 7 := (rfl)
theorem dc_Both : (@Cells.dc Both _) = dcIso (fun t => ⟨t.1, t.2.1, t.2.2.1, t.2.2.2.1, t.2.2.2.2.1, t.2.2.2.2.2.1, t.2.2.2.2.2.2⟩) (dcPair (dcOne (α := Int)) (dcPair (dcOne (α := Int)) (dcPair (dcOne (α := Int)) (dcPair (dcOne (α := Int)) (dcPair (dcOne (α := Int)) (dcPair (dcOne (α := List Int)) (dcOne (α := List Int)))))))) := (rfl)
theorem d_Both : (@Enc.d Both _) = dAgg Cells.dc := (rfl)

structure Tok where
  op : Int
  n : Int
  deriving Inhabited, DecidableEq
instance : Cells Tok := Cells.iso (τ := Int × Int) (fun s => (s.op, s.n)) (fun t => ⟨t.1, t.2⟩) (fun _ => rfl) (fun _ => rfl)
instance : Enc Tok := Enc.agg
theorem e_Tok (a : Tok) : (Enc.e a : AV) = .agg [.lit (.int .i64 a.op), .lit (.int .i64 a.n)] := (rfl)
theorem w_Tok : Enc.w Tok = 2 := (rfl)
theorem dc_Tok : (@Cells.dc Tok _) = dcIso (fun t => ⟨t.1, t.2⟩) (dcPair (dcOne (α := Int)) (dcOne (α := Int))) := (rfl)
theorem d_Tok : (@Enc.d Tok _) = dAgg Cells.dc := (rfl)

structure WinDef where
  kind : Int
  size : Int
  step : Int
  deriving Inhabited, DecidableEq
instance : Cells WinDef := Cells.iso (τ := Int × Int × Int) (fun s => (s.kind, s.size, s.step)) (fun t => ⟨t.1, t.2.1, t.2.2⟩) (fun _ => rfl) (fun _ => rfl)
instance : Enc WinDef := Enc.agg
theorem e_WinDef (a : WinDef) : (Enc.e a : AV) = .agg [.lit (.int .i64 a.kind), .lit (.int .i64 a.size), .lit (.int .i64 a.step)] := (rfl)
theorem w_WinDef : Enc.w WinDef = 3 := (rfl)
theorem dc_WinDef : (@Cells.dc WinDef _) = dcIso (fun t => ⟨t.1, t.2.1, t.2.2⟩) (dcPair (dcOne (α := Int)) (dcPair (dcOne (α := Int)) (dcOne (α := Int)))) := (rfl)
theorem d_WinDef : (@Enc.d WinDef _) = dAgg Cells.dc := (rfl)

structure Query where
  filter : List Tok
  map : List Tok
  win : WinDef
  kind : Int
  k : Int
  deriving Inhabited, DecidableEq
instance : Cells Query := Cells.iso (τ := List Tok × List Tok × WinDef × Int × Int) (fun s => (s.filter, s.map, s.win, s.kind, s.k)) (fun t => ⟨t.1, t.2.1, t.2.2.1, t.2.2.2.1, t.2.2.2.2⟩) (fun _ => rfl) (fun _ => rfl)
instance : Enc Query := Enc.agg
theorem e_Query (a : Query) : (Enc.e a : AV) = .agg [.sl 2 (encL Enc.e a.filter), .sl 2 (encL Enc.e a.map), .lit (.int .i64 a.win.kind), .lit (.int .i64 a.win.size), .lit (.int .i64 a.win.step), .lit (.int .i64 a.kind), .lit (.int .i64 a.k)] := (rfl)
theorem w_Query : Enc.w Query = 7 := (rfl)
theorem dc_Query : (@Cells.dc Query _) = dcIso (fun t => ⟨t.1, t.2.1, t.2.2.1, t.2.2.2.1, t.2.2.2.2⟩) (dcPair (dcOne (α := List Tok)) (dcPair (dcOne (α := List Tok)) (dcPair (@Cells.dc WinDef _) (dcPair (dcOne (α := Int)) (dcOne (α := Int)))))) := (rfl)
theorem d_Query : (@Enc.d Query _) = dAgg Cells.dc := (rfl)

structure Elem where
  src : Int
  key : Int
  val : Int
  time : Int
  deriving Inhabited, DecidableEq
instance : Cells Elem := Cells.iso (τ := Int × Int × Int × Int) (fun s => (s.src, s.key, s.val, s.time)) (fun t => ⟨t.1, t.2.1, t.2.2.1, t.2.2.2⟩) (fun _ => rfl) (fun _ => rfl)
instance : Enc Elem := Enc.agg
theorem e_Elem (a : Elem) : (Enc.e a : AV) = .agg [.lit (.int .i64 a.src), .lit (.int .i64 a.key), .lit (.int .i64 a.val), .lit (.int .i64 a.time)] := (rfl)
theorem w_Elem : Enc.w Elem = 4 := (rfl)
theorem dc_Elem : (@Cells.dc Elem _) = dcIso (fun t => ⟨t.1, t.2.1, t.2.2.1, t.2.2.2⟩) (dcPair (dcOne (α := Int)) (dcPair (dcOne (α := Int)) (dcPair (dcOne (α := Int)) (dcOne (α := Int))))) := (rfl)
theorem d_Elem : (@Enc.d Elem _) = dAgg Cells.dc := (rfl)

structure Punct where
  src : Int
  bits : Int
  key : Int
  label : Int
  deriving Inhabited, DecidableEq
instance : Cells Punct := Cells.iso (τ := Int × Int × Int × Int) (fun s => (s.src, s.bits, s.key, s.label)) (fun t => ⟨t.1, t.2.1, t.2.2.1, t.2.2.2⟩) (fun _ => rfl) (fun _ => rfl)
instance : Enc Punct := Enc.agg
theorem e_Punct (a : Punct) : (Enc.e a : AV) = .agg [.lit (.int .i64 a.src), .lit (.int .i64 a.bits), .lit (.int .i64 a.key), .lit (.int .i64 a.label)] := (rfl)
theorem w_Punct : Enc.w Punct = 4 := (rfl)
theorem dc_Punct : (@Cells.dc Punct _) = dcIso (fun t => ⟨t.1, t.2.1, t.2.2.1, t.2.2.2⟩) (dcPair (dcOne (α := Int)) (dcPair (dcOne (α := Int)) (dcPair (dcOne (α := Int)) (dcOne (α := Int))))) := (rfl)
theorem d_Punct : (@Enc.d Punct _) = dAgg Cells.dc := (rfl)

structure Mark where
  at_ : Int
  idle : Bool
  deriving Inhabited, DecidableEq
instance : Cells Mark := Cells.iso (τ := Int × Bool) (fun s => (s.at_, s.idle)) (fun t => ⟨t.1, t.2⟩) (fun _ => rfl) (fun _ => rfl)
instance : Enc Mark := Enc.agg
theorem e_Mark (a : Mark) : (Enc.e a : AV) = .agg [.lit (.int .i64 a.at_), .lit (.bool a.idle)] := (rfl)
theorem w_Mark : Enc.w Mark = 2 := (rfl)
theorem dc_Mark : (@Cells.dc Mark _) = dcIso (fun t => ⟨t.1, t.2⟩) (dcPair (dcOne (α := Int)) (dcOne (α := Bool))) := (rfl)
theorem d_Mark : (@Enc.d Mark _) = dAgg Cells.dc := (rfl)

structure Marks where
  global_ : Int
  list : List Mark
  deriving Inhabited, DecidableEq
instance : Cells Marks := Cells.iso (τ := Int × List Mark) (fun s => (s.global_, s.list)) (fun t => ⟨t.1, t.2⟩) (fun _ => rfl) (fun _ => rfl)
instance : Enc Marks := Enc.agg
theorem e_Marks (a : Marks) : (Enc.e a : AV) = .agg [.lit (.int .i64 a.global_), .sl 2 (encL Enc.e a.list)] := (rfl)
theorem w_Marks : Enc.w Marks = 2 := (rfl)
theorem dc_Marks : (@Cells.dc Marks _) = dcIso (fun t => ⟨t.1, t.2⟩) (dcPair (dcOne (α := Int)) (dcOne (α := List Mark))) := (rfl)
theorem d_Marks : (@Enc.d Marks _) = dAgg Cells.dc := (rfl)

structure Cell where
  query : Int
  key : Int
  from_ : Int
  to : Int
  label : Int
  agg : Agg
  deriving Inhabited, DecidableEq
instance : Cells Cell := Cells.iso (τ := Int × Int × Int × Int × Int × Agg) (fun s => (s.query, s.key, s.from_, s.to, s.label, s.agg)) (fun t => ⟨t.1, t.2.1, t.2.2.1, t.2.2.2.1, t.2.2.2.2.1, t.2.2.2.2.2⟩) (fun _ => rfl) (fun _ => rfl)
instance : Enc Cell := Enc.agg
theorem e_Cell (a : Cell) : (Enc.e a : AV) = .agg [.lit (.int .i64 a.query), .lit (.int .i64 a.key), .lit (.int .i64 a.from_), .lit (.int .i64 a.to), .lit (.int .i64 a.label), .lit (.int .i64 a.agg.n), .lit (.int .i64 a.agg.sum.hi), .lit (.int .u64 a.agg.sum.lo.n), .lit (.int .i64 a.agg.min), .lit (.int .i64 a.agg.max), .sl 1 (encL Enc.e a.agg.top)] := (rfl)
theorem w_Cell : Enc.w Cell = 11 := (rfl)
theorem dc_Cell : (@Cells.dc Cell _) = dcIso (fun t => ⟨t.1, t.2.1, t.2.2.1, t.2.2.2.1, t.2.2.2.2.1, t.2.2.2.2.2⟩) (dcPair (dcOne (α := Int)) (dcPair (dcOne (α := Int)) (dcPair (dcOne (α := Int)) (dcPair (dcOne (α := Int)) (dcPair (dcOne (α := Int)) (@Cells.dc Agg _)))))) := (rfl)
theorem d_Cell : (@Enc.d Cell _) = dAgg Cells.dc := (rfl)

structure Cur where
  code : List U8
  at_ : Int
  seed : Int
  deriving Inhabited, DecidableEq
instance : Cells Cur := Cells.iso (τ := List U8 × Int × Int) (fun s => (s.code, s.at_, s.seed)) (fun t => ⟨t.1, t.2.1, t.2.2⟩) (fun _ => rfl) (fun _ => rfl)
instance : Enc Cur := Enc.agg
theorem e_Cur (a : Cur) : (Enc.e a : AV) = .agg [.sl 1 (encL Enc.e a.code), .lit (.int .i64 a.at_), .lit (.int .i64 a.seed)] := (rfl)
theorem w_Cur : Enc.w Cur = 3 := (rfl)
theorem dc_Cur : (@Cells.dc Cur _) = dcIso (fun t => ⟨t.1, t.2.1, t.2.2⟩) (dcPair (dcOne (α := List U8)) (dcPair (dcOne (α := Int)) (dcOne (α := Int)))) := (rfl)
theorem d_Cur : (@Enc.d Cur _) = dAgg Cells.dc := (rfl)

attribute [go_sem] dAgg dcIso dcPair dcOne e_Wide w_Wide dc_Wide d_Wide e_Agg w_Agg dc_Agg d_Agg e_Win w_Win dc_Win d_Win e_Pane w_Pane dc_Pane d_Pane e_Item w_Item dc_Item d_Item e_Rec w_Rec dc_Rec d_Rec e_Box w_Box dc_Box d_Box e_Lat w_Lat dc_Lat d_Lat e_Edge w_Edge dc_Edge d_Edge e_Both w_Both dc_Both d_Both e_Tok w_Tok dc_Tok d_Tok e_WinDef w_WinDef dc_WinDef d_WinDef e_Query w_Query dc_Query d_Query e_Elem w_Elem dc_Elem d_Elem e_Punct w_Punct dc_Punct d_Punct e_Mark w_Mark dc_Mark d_Mark e_Marks w_Marks dc_Marks d_Marks e_Cell w_Cell dc_Cell d_Cell e_Cur w_Cur dc_Cur d_Cur
end Go.Ax
