import Derived.Test.YthahbiahlpcgeaaGreatDoorSym15
namespace Go.Proofs.YthahbiahlpcgeaaGreatDoor.Sym
open Go.RowKit
set_option maxRecDepth 100000
set_option linter.unusedVariables false
set_option maxHeartbeats 4000000
structure T_api_Mealy where
  Inputs : Int
  Start : Int
  Next : List (List Int)
  Out : List (List Int)
  deriving DecidableEq
def c_api_Mealy (s : T_api_Mealy) : List IV := [nI s.Inputs, nI s.Start, nL (cL cI) s.Next, nL (cL cI) s.Out]
structure T_api_Latency where
  Step : List Int
  Reset : Int
  deriving DecidableEq
def c_api_Latency (s : T_api_Latency) : List IV := [nL cI s.Step, nI s.Reset]
structure T_api_Faults where
  Lost : Int
  Wrong : Int
  Crash : Int
  deriving DecidableEq
def c_api_Faults (s : T_api_Faults) : List IV := [nI s.Lost, nI s.Wrong, nI s.Crash]
structure T_api_Device where
  M : T_api_Mealy
  State : Int
  Ready : Bool
  Latency : T_api_Latency
  Faults : T_api_Faults
  Seed : Int
  Steps : Int
  Resets : Int
  Time : Int
  deriving DecidableEq
def c_api_Device (s : T_api_Device) : List IV := [nI s.M.Inputs, nI s.M.Start, nL (cL cI) s.M.Next, nL (cL cI) s.M.Out, nI s.State, nB s.Ready, nL cI s.Latency.Step, nI s.Latency.Reset, nI s.Faults.Lost, nI s.Faults.Wrong, nI s.Faults.Crash, nU s.Seed, nI s.Steps, nI s.Resets, nI s.Time]
structure T_api_Trace where
  In : List Int
  Out : List Int
  deriving DecidableEq
def c_api_Trace (s : T_api_Trace) : List IV := [nL cI s.In, nL cI s.Out]
structure T_api_Obs where
  Inputs : Int
  Traces : List T_api_Trace
  deriving DecidableEq
def c_api_Obs (s : T_api_Obs) : List IV := [nI s.Inputs, nL c_api_Trace s.Traces]
structure T_api_Oracle where
  Device : T_api_Device
  Obs : T_api_Obs
  Votes : Int
  Tries : Int
  Asked : Int
  Hits : Int
  deriving DecidableEq
def c_api_Oracle (s : T_api_Oracle) : List IV := [nI s.Device.M.Inputs, nI s.Device.M.Start, nL (cL cI) s.Device.M.Next, nL (cL cI) s.Device.M.Out, nI s.Device.State, nB s.Device.Ready, nL cI s.Device.Latency.Step, nI s.Device.Latency.Reset, nI s.Device.Faults.Lost, nI s.Device.Faults.Wrong, nI s.Device.Faults.Crash, nU s.Device.Seed, nI s.Device.Steps, nI s.Device.Resets, nI s.Device.Time, nI s.Obs.Inputs, nL c_api_Trace s.Obs.Traces, nI s.Votes, nI s.Tries, nI s.Asked, nI s.Hits]
structure T_api_Table where
  Inputs : Int
  Prefixes : List (List Int)
  Suffixes : List (List Int)
  deriving DecidableEq
def c_api_Table (s : T_api_Table) : List IV := [nI s.Inputs, nL (cL cI) s.Prefixes, nL (cL cI) s.Suffixes]
structure T_api_Baseline where
  M : T_api_Mealy
  Words : List (List Int)
  deriving DecidableEq
def c_api_Baseline (s : T_api_Baseline) : List IV := [nI s.M.Inputs, nI s.M.Start, nL (cL cI) s.M.Next, nL (cL cI) s.M.Out, nL (cL cI) s.Words]
structure T_api_Report where
  Run : Int
  Changes : List T_api_Trace
  deriving DecidableEq
def c_api_Report (s : T_api_Report) : List IV := [nI s.Run, nL c_api_Trace s.Changes]
structure T_api_Mapper where
  Inputs : Int
  Abstract : Int
  Start : Int
  Next : List (List Int)
  Sym : List (List Int)
  deriving DecidableEq
def c_api_Mapper (s : T_api_Mapper) : List IV := [nI s.Inputs, nI s.Abstract, nI s.Start, nL (cL cI) s.Next, nL (cL cI) s.Sym]
structure T_api_Clash where
  Word : List Int
  First : Int
  Second : Int
  deriving DecidableEq
def c_api_Clash (s : T_api_Clash) : List IV := [nL cI s.Word, nI s.First, nI s.Second]
structure T_api_Hyp where
  M : T_api_Mealy
  Access : List (List Int)
  deriving DecidableEq
def c_api_Hyp (s : T_api_Hyp) : List IV := [nI s.M.Inputs, nI s.M.Start, nL (cL cI) s.M.Next, nL (cL cI) s.M.Out, nL (cL cI) s.Access]
structure T_api_Part where
  Inputs : Int
  Start : Int
  Next : List (List Int)
  Out : List (List Int)
  deriving DecidableEq
def c_api_Part (s : T_api_Part) : List IV := [nI s.Inputs, nI s.Start, nL (cL cI) s.Next, nL (cL cI) s.Out]
structure T_api_Lazy where
  Inputs : Int
  Short : List (List Int)
  Suffixes : List (List Int)
  deriving DecidableEq
def c_api_Lazy (s : T_api_Lazy) : List IV := [nI s.Inputs, nL (cL cI) s.Short, nL (cL cI) s.Suffixes]
structure T_api_Split where
  Prefix : List Int
  Symbol : Int
  Suffix : List Int
  deriving DecidableEq
def c_api_Split (s : T_api_Split) : List IV := [nL cI s.Prefix, nI s.Symbol, nL cI s.Suffix]
structure T_learnerlaw28_Case where
  M : T_api_Mealy
  O : T_api_Obs
  L : T_api_Lazy
  S : T_api_Split
  deriving DecidableEq
def c_learnerlaw28_Case (s : T_learnerlaw28_Case) : List IV := [nI s.M.Inputs, nI s.M.Start, nL (cL cI) s.M.Next, nL (cL cI) s.M.Out, nI s.O.Inputs, nL c_api_Trace s.O.Traces, nI s.L.Inputs, nL (cL cI) s.L.Short, nL (cL cI) s.L.Suffixes, nL cI s.S.Prefix, nI s.S.Symbol, nL cI s.S.Suffix]
structure T_learnerlaw35_Parts where
  P : T_api_Part
  W : List Int
  S : Int
  T : Int
  Out : Int
  deriving DecidableEq
def c_learnerlaw35_Parts (s : T_learnerlaw35_Parts) : List IV := [nI s.P.Inputs, nI s.P.Start, nL (cL cI) s.P.Next, nL (cL cI) s.P.Out, nL cI s.W, nI s.S, nI s.T, nI s.Out]
structure T_mealy_machine where
  Mealy : T_api_Mealy
  deriving DecidableEq
def c_mealy_machine (s : T_mealy_machine) : List IV := [nI s.Mealy.Inputs, nI s.Mealy.Start, nL (cL cI) s.Mealy.Next, nL (cL cI) s.Mealy.Out]
structure T_mealy_runner where
  machine : T_mealy_machine
  at_ : Int
  deriving DecidableEq
def c_mealy_runner (s : T_mealy_runner) : List IV := [nI s.machine.Mealy.Inputs, nI s.machine.Mealy.Start, nL (cL cI) s.machine.Mealy.Next, nL (cL cI) s.machine.Mealy.Out, nI s.at_]
structure T_api_Mutation where
  Kind : Int
  State : Int
  Input : Int
  Value : Int
  Value2 : Int
  deriving DecidableEq
def c_api_Mutation (s : T_api_Mutation) : List IV := [nI s.Kind, nI s.State, nI s.Input, nI s.Value, nI s.Value2]
structure T_regress_runner where
  m : T_api_Mealy
  report : T_api_Report
  deriving DecidableEq
def c_regress_runner (s : T_regress_runner) : List IV := [nI s.m.Inputs, nI s.m.Start, nL (cL cI) s.m.Next, nL (cL cI) s.m.Out, nI s.report.Run, nL c_api_Trace s.report.Changes]
structure T_table_view where
  rows : List (List (List Int))
  prefixes : List Int
  next : List (List Int)
  number : List (ByteArray × Int)
  deriving DecidableEq
def c_table_view (s : T_table_view) : List IV := [nL (cL (cL cI)) s.rows, nL cI s.prefixes, nL (cL cI) s.next, .any]
structure T_refine_reached where
  m : T_api_Mealy
  states : List Int
  words : List (List Int)
  class_ : List Int
  deriving DecidableEq
def c_refine_reached (s : T_refine_reached) : List IV := [nI s.m.Inputs, nI s.m.Start, nL (cL cI) s.m.Next, nL (cL cI) s.m.Out, nL cI s.states, nL (cL cI) s.words, nL cI s.class_]
structure T_mapper_set where
  list : List Int
  word : List Int
  deriving DecidableEq
def c_mapper_set (s : T_mapper_set) : List IV := [nL cI s.list, nL cI s.word]
structure T_mapper_builder where
  m : T_api_Mealy
  p : T_api_Mapper
  sets : List T_mapper_set
  of : List (ByteArray × Int)
  deriving DecidableEq
def c_mapper_builder (s : T_mapper_builder) : List IV := [nI s.m.Inputs, nI s.m.Start, nL (cL cI) s.m.Next, nL (cL cI) s.m.Out, nI s.p.Inputs, nI s.p.Abstract, nI s.p.Start, nL (cL cI) s.p.Next, nL (cL cI) s.p.Sym, nL c_mapper_set s.sets, .any]
structure T_evidence_candidate where
  score : Int
  blue : Int
  red : Int
  deriving DecidableEq
def c_evidence_candidate (s : T_evidence_candidate) : List IV := [nI s.score, nI s.blue, nI s.red]
structure T_lazy_reader where
  l : T_api_Lazy
  o : T_api_Obs
  missing : List (List Int)
  long : Bool
  deriving DecidableEq
def c_lazy_reader (s : T_lazy_reader) : List IV := [nI s.l.Inputs, nL (cL cI) s.l.Short, nL (cL cI) s.l.Suffixes, nI s.o.Inputs, nL c_api_Trace s.o.Traces, nL (cL cI) s.missing, nB s.long]
structure T_nondet_group where
  word : List Int
  before : List Int
  least : List Int
  deriving DecidableEq
def c_nondet_group (s : T_nondet_group) : List IV := [nL cI s.word, nL cI s.before, nL cI s.least]
structure T_device_unit where
  Device : T_api_Device
  deriving DecidableEq
def c_device_unit (s : T_device_unit) : List IV := [nI s.Device.M.Inputs, nI s.Device.M.Start, nL (cL cI) s.Device.M.Next, nL (cL cI) s.Device.M.Out, nI s.Device.State, nB s.Device.Ready, nL cI s.Device.Latency.Step, nI s.Device.Latency.Reset, nI s.Device.Faults.Lost, nI s.Device.Faults.Wrong, nI s.Device.Faults.Crash, nU s.Device.Seed, nI s.Device.Steps, nI s.Device.Resets, nI s.Device.Time]
structure T_equiv_pair where
  s : Int
  t : Int
  deriving DecidableEq
def c_equiv_pair (s : T_equiv_pair) : List IV := [nI s.s, nI s.t]
structure T_mapper_runner where
  Mapper : T_api_Mapper
  state : Int
  deriving DecidableEq
def c_mapper_runner (s : T_mapper_runner) : List IV := [nI s.Mapper.Inputs, nI s.Mapper.Abstract, nI s.Mapper.Start, nL (cL cI) s.Mapper.Next, nL (cL cI) s.Mapper.Sym, nI s.state]
structure T_cover_place where
  state : Int
  word : List Int
  deriving DecidableEq
def c_cover_place (s : T_cover_place) : List IV := [nI s.state, nL cI s.word]
structure T_merge_blocks_int_ where
  up : List (Int × Int)
  deriving DecidableEq
def c_merge_blocks_int_ (s : T_merge_blocks_int_) : List IV := [.any]
structure T_equiv_place where
  at_ : T_equiv_pair
  word : List Int
  deriving DecidableEq
def c_equiv_place (s : T_equiv_place) : List IV := [nI s.at_.s, nI s.at_.t, nL cI s.word]
structure T_learnerref09_Pair where
  S : Int
  T : Int
  Word : List Int
  deriving DecidableEq
def c_learnerref09_Pair (s : T_learnerref09_Pair) : List IV := [nI s.S, nI s.T, nL cI s.Word]
structure T_api_DNode where
  Leaf : Bool
  Access : List Int
  Suffix : List Int
  Outs : List (List Int)
  Kids : List Int
  deriving DecidableEq
def c_api_DNode (s : T_api_DNode) : List IV := [nB s.Leaf, nL cI s.Access, nL cI s.Suffix, nL (cL cI) s.Outs, nL cI s.Kids]
structure T_api_DTree where
  Nodes : List T_api_DNode
  deriving DecidableEq
def c_api_DTree (s : T_api_DTree) : List IV := [nL c_api_DNode s.Nodes]
structure T_api_TreeState where
  Inputs : Int
  Tree : T_api_DTree
  deriving DecidableEq
def c_api_TreeState (s : T_api_TreeState) : List IV := [nI s.Inputs, nL c_api_DNode s.Tree.Nodes]
structure T_treelearn_learner where
  TreeState : T_api_TreeState
  o : T_api_Obs
  deriving DecidableEq
def c_treelearn_learner (s : T_treelearn_learner) : List IV := [nI s.TreeState.Inputs, nL c_api_DNode s.TreeState.Tree.Nodes, nI s.o.Inputs, nL c_api_Trace s.o.Traces]
structure T_analyze_subject where
  h : T_api_Hyp
  o : T_api_Obs
  w : List Int
  states : List Int
  outs : List Int
  deriving DecidableEq
def c_analyze_subject (s : T_analyze_subject) : List IV := [nI s.h.M.Inputs, nI s.h.M.Start, nL (cL cI) s.h.M.Next, nL (cL cI) s.h.M.Out, nL (cL cI) s.h.Access, nI s.o.Inputs, nL c_api_Trace s.o.Traces, nL cI s.w, nL cI s.states, nL cI s.outs]
structure T_treelearn_extension where
  w : List Int
  node : Int
  deriving DecidableEq
def c_treelearn_extension (s : T_treelearn_extension) : List IV := [nL cI s.w, nI s.node]
end Go.Proofs.YthahbiahlpcgeaaGreatDoor.Sym
