/- What the rows of chapter 05 share. -/
import Derived.Test.YtlcjlcllbgjplaaGreatFsPF
import Derived.Test.YtlcjlcllbgjplaaGreatFsEC
import Derived.RecoverIn
import Derived.Below
import Derived.ProofKit
import Derived.Test.YtlcjlcllbgjplaaGreatProg
import Derived.WalkKit
import Derived.KernelRfl
import Derived.StillTail
import Derived.StillTailTactics
import Derived.Deep.QuietTactic
import Derived.BigQuiet
import Derived.RangeFuncRecord
import Derived.Test.YtlcjlcllbgjplaaGreatFsEB
import Derived.Test.YtlcjlcllbgjplaaGreatFsPC
import Derived.Test.YtlcjlcllbgjplaaGreatFsPE
import Derived.Test.YtlcjlcllbgjplaaGreatFsPB
import Derived.Test.YtlcjlcllbgjplaaGreatRows
import Derived.OpenShut
import Derived.Deep.Slices
import Derived.Deep.Fields
import Derived.ChangeSame
/- The table of the evaluator is that of the program. Printed by program. -/
namespace Go.Proofs.YtlcjlcllbgjplaaGreat
open Go Go.Proofs
namespace Ev
def FT.All (p:Nat→AFunc→Prop):FT→Prop
  |.leaf=>True
  |.node k f l r=>p k f∧(FT.All p l∧FT.All p r)
theorem FT.find_all {p:Nat→AFunc→Prop}:∀ {t:FT} {n:Nat} {f:AFunc},FT.All p t→FT.find t n=some f→p n f
  |.leaf,n,f,_,h=>by cases h
  |.node k g l r,n,f,ha,h=>by
    have e:FT.find (.node k g l r) n=(Bool.rec (Bool.rec (FT.find r n) (FT.find l n) (Nat.ble (Nat.succ n) k)) (some g) (Nat.beq n k):Option AFunc):=rfl
    rw[e] at h
    cases hb:Nat.beq n k with
    |true=>rw[hb] at h;cases h;rw[Nat.eq_of_beq_eq_true hb];exact ha.1
    |false=>
      rw[hb] at h
      cases hc:Nat.ble (Nat.succ n) k with
      |true=>rw[hc] at h;exact FT.find_all ha.2.1 h
      |false=>rw[hc] at h;exact FT.find_all ha.2.2 h
theorem zrw : FT.All (fun k af => ∃ F, Tryz.prog.funcs[k]? = some F ∧ (F.name == "runtime.NumGoroutine")=false∧compFn Tryz.prog F=some af.strip) fnTree:=
  ⟨is65,⟨is34,⟨is18,⟨is10,⟨is6,⟨is4,⟨is3,trivial,trivial⟩,⟨is5,trivial,trivial⟩⟩,⟨is8,⟨is7,trivial,trivial⟩,⟨is9,trivial,trivial⟩⟩⟩,⟨is14,⟨is12,⟨is11,trivial,trivial⟩,⟨is13,trivial,trivial⟩⟩,⟨is16,⟨is15,trivial,trivial⟩,⟨is17,trivial,trivial⟩⟩⟩⟩,⟨is26,⟨is22,⟨is20,⟨is19,trivial,trivial⟩,⟨is21,trivial,trivial⟩⟩,⟨is24,⟨is23,trivial,trivial⟩,⟨is25,trivial,trivial⟩⟩⟩,⟨is31,⟨is28,⟨is27,trivial,trivial⟩,⟨is30,trivial,trivial⟩⟩,⟨is33,⟨is32,trivial,trivial⟩,trivial⟩⟩⟩⟩,⟨is50,⟨is42,⟨is38,⟨is36,⟨is35,trivial,trivial⟩,⟨is37,trivial,trivial⟩⟩,⟨is40,⟨is39,trivial,trivial⟩,⟨is41,trivial,trivial⟩⟩⟩,⟨is46,⟨is44,⟨is43,trivial,trivial⟩,⟨is45,trivial,trivial⟩⟩,⟨is48,⟨is47,trivial,trivial⟩,⟨is49,trivial,trivial⟩⟩⟩⟩,⟨is58,⟨is54,⟨is52,⟨is51,trivial,trivial⟩,⟨is53,trivial,trivial⟩⟩,⟨is56,⟨is55,trivial,trivial⟩,⟨is57,trivial,trivial⟩⟩⟩,⟨is62,⟨is60,⟨is59,trivial,trivial⟩,⟨is61,trivial,trivial⟩⟩,⟨is64,⟨is63,trivial,trivial⟩,trivial⟩⟩⟩⟩⟩,⟨is96,⟨is81,⟨is73,⟨is69,⟨is67,⟨is66,trivial,trivial⟩,⟨is68,trivial,trivial⟩⟩,⟨is71,⟨is70,trivial,trivial⟩,⟨is72,trivial,trivial⟩⟩⟩,⟨is77,⟨is75,⟨is74,trivial,trivial⟩,⟨is76,trivial,trivial⟩⟩,⟨is79,⟨is78,trivial,trivial⟩,⟨is80,trivial,trivial⟩⟩⟩⟩,⟨is89,⟨is85,⟨is83,⟨is82,trivial,trivial⟩,⟨is84,trivial,trivial⟩⟩,⟨is87,⟨is86,trivial,trivial⟩,⟨is88,trivial,trivial⟩⟩⟩,⟨is93,⟨is91,⟨is90,trivial,trivial⟩,⟨is92,trivial,trivial⟩⟩,⟨is95,⟨is94,trivial,trivial⟩,trivial⟩⟩⟩⟩,⟨is112,⟨is104,⟨is100,⟨is98,⟨is97,trivial,trivial⟩,⟨is99,trivial,trivial⟩⟩,⟨is102,⟨is101,trivial,trivial⟩,⟨is103,trivial,trivial⟩⟩⟩,⟨is108,⟨is106,⟨is105,trivial,trivial⟩,⟨is107,trivial,trivial⟩⟩,⟨is110,⟨is109,trivial,trivial⟩,⟨is111,trivial,trivial⟩⟩⟩⟩,⟨is120,⟨is116,⟨is114,⟨is113,trivial,trivial⟩,⟨is115,trivial,trivial⟩⟩,⟨is118,⟨is117,trivial,trivial⟩,⟨is119,trivial,trivial⟩⟩⟩,⟨is139,⟨is122,⟨is121,trivial,trivial⟩,⟨is123,trivial,trivial⟩⟩,⟨is141,⟨is140,trivial,trivial⟩,trivial⟩⟩⟩⟩⟩⟩
end Ev
end Go.Proofs.YtlcjlcllbgjplaaGreat
namespace Go.Proofs.YtlcjlcllbgjplaaGreat
open Go Go.RowKit
section
variable {P:Program} {n:Nat} {Q:Exit→Act→List Frame→World→Prop} {a:Act} {cs cs':List Frame} {w:World}

theorem zeh {id:Nat}{ops:Array Oper}{o:Oper}{rest:List Nat}{v:Value}(hl:List.range ops.size=0::rest)(ho:ops[0]?=some o)(hg:Region.wanted o (yielded ops a.tmps)=true)
    (hrun:(execOp a.eval o).run P w=.ok .recover w) (hrec:recoverD cs=some (v,cs')∨(recoverD cs=none∧v=.nilIface∧cs'=cs))
    (h:wpOpsIn Fence.wide n P ops (fun e a' w'=>Q e a' cs' w') rest (a.put o.dst v) w):(Code.region id ops false).wpSIn Fence.wide n P Q a cs w:=by
  intro b k hb hro hF hroom
  have hlen:cs'.length=cs.length:=by
    rcases hrec with h|⟨_,_,h⟩
    · exact recoverD_length h
    · rw[h]
  obtain ⟨e,a',w',hq,harr⟩:=wp_opsIn rest _ _ h b k cs' hro hF (by rw[hlen];exact hroom)
  have h0:(lone (b.atR a (.inRegion ops (0::rest)::k)) cs w).fenced P Fence.wide:=fenced_oper hF hroom ho fun _ _=>trivial
  have hgo:=stepGR_op (P:=P) (b:=b) (k:=k) (cs:=cs) (w:=w) (rest:=rest) ho hg
  rw[hro,Oper.semAt_none] at hgo
  have hfin:∀ v,(b.atR a (.inRegion ops (0::rest)::k)).finish v=b.atR (a.put o.dst v) (.inRegion ops rest::k):=by
    intro v;rw[Frame.finish_atR,ho];rfl
  have hk:(b.atR a (.inRegion ops (0::rest)::k)).kind=.deferred:=hb
  have htr:=tryRecover_deferred hk cs
  refine ⟨e,a',cs',w',hlen,hq,.of_steps (.head (fenced_calm hF hroom rfl) (stepR_region) (.one (by rw[hl];exact h0) (step_lone_go ?_))) harr⟩
  rw[hl,hgo,← hfin]
  rcases hrec with hrec|⟨hrec,rfl,rfl⟩
  · simp only[Frame.atR,hro] at htr ⊢
    simp[stepG.apply,hrun,htr,hrec]
  · simp only[Frame.atR,hro] at htr ⊢
    simp[stepG.apply,hrun,htr,hrec]
end
end Go.Proofs.YtlcjlcllbgjplaaGreat
namespace Go.Proofs.YtlcjlcllbgjplaaGreat
open Go Go.Proofs Go.RowKit
set_option maxHeartbeats 400000 in
set_option maxRecDepth 100000 in
theorem zjo (B off:Nat)(y:Value)(k:IntKind)(n:Int)(W:World)(hc:W.cell? ⟨B,off,none⟩=some y)(hz:W.frozen? ⟨B,off,none⟩=false):
    Calls Tryz.prog 29 #[.iface 114 (.agg #[.int k n]),.pointer (some ⟨B,off,none⟩)] W fun e W'=>e=.returned (.tuple #[])∧Below W.heap.size (W.setCell ⟨B,off,none⟩ (.int k n)) W':=by
  have hta:∀ w:World,(Instr.typeAssert (.iface 114 (.agg #[.int k n])) 20 114 true).run Tryz.prog w=.ok (.tuple #[.agg #[.int k n],.bool true]) w:=fun _=>by kernel_rfl
  have hlt:B<W.heap.size:=by
    unfold World.cell? at hc
    cases hb:W.heap[B]? with
    |none=>simp[hb] at hc
    |some x=>exact (Array.getElem?_eq_some_iff.1 hb).1
  have hca:∀ o,(W.alloc o).cell? ⟨B,off,none⟩=some y:=fun o=>(World.cell?_of_block (Below.heap_alloc W o B hlt)).trans hc
  have hza:∀ o,(W.alloc o).frozen? ⟨B,off,none⟩=false:=fun o=>(World.frozen?_of_block (Below.heap_alloc W o B hlt)).trans hz
  have hbel:∀ o,Below W.heap.size (W.setCell ⟨B,off,none⟩ (.int k n)) ((W.alloc o).setCell ⟨B,off,none⟩ (.int k n)):=fun o=>by
    refine ⟨rfl,rfl,rfl,by simp,fun i hi=>?_⟩
    simp only[World.setCell,Array.getElem?_modify]
    rw[Below.heap_alloc W o i hi]
  clear hc hz hlt
  go_enter Tryz.func29,Tryz.ntmps29
  go_wp2
  exact ⟨rfl,_,results_none rfl _ _ _,rfl,hbel _⟩
theorem zjp (x:Value)(W:World):Calls Tryz.prog 29 #[.nilIface,x] W fun e W'=>e=.returned (.tuple #[])∧Below W.heap.size W W':=by
  go_enter Tryz.func29,Tryz.ntmps29
  go_wp2
  exact ⟨rfl,_,results_none rfl _ _ _,rfl,Below.refl _ _⟩

theorem zbj {f : Nat} {fn : Func} {id : Nat} {ops : Array Oper} {o0 o1 : Oper} (hf : Tryz.prog.funcs[f]? = some fn) (hb : fn.body = some (.region id ops false)) (hn : fn.ntmps = 3) (hr : fn.results = #[]) (_hnm : (fn.name == "runtime.NumGoroutine")=false)
    (ho:ops=#[o0,o1]) (h0:o0.op=.call { callee:=.builtin .recover,args:=#[],argTypes:=#[] }) (hd0:o0.dst=some 1) (hg0:o0.guard=none) (hd1:o1.dst=some 2) (hg1:o1.guard=none) {ts:Array TypeId} (h1:o1.op=.call { callee:=.value (.func 29),args:=#[.tmp 1,.tmp 0],argTypes:=ts }):
    (∀ (x:Value) (W:World),CallsDIn Fence.wide 0 Tryz.prog f #[x] .returning W fun e u' W'=>(∃ v,e=.returned v)∧u'=.returning∧Below W.heap.size W W') ∧
    (∀ (B off : Nat) (y x : Value) (k : IntKind) (n : Int) (W : World), W.cell? ⟨B, off, none⟩ = some y → W.frozen? ⟨B, off, none⟩ = false → x = .agg #[.int k n] →
      CallsDIn Fence.wide 0 Tryz.prog f #[.pointer (some ⟨B,off,none⟩)] (.panicking [{ v:=.iface 114 x,recovered:=false }]) W fun e u' W'=>
        (∃ v,e=.returned v)∧u'=.panicking [{ v:=.iface 114 x,recovered:=true }]∧Below W.heap.size (W.setCell ⟨B,off,none⟩ (.int k n)) W'):=by
  have hwalk:∀ (x rv:Value) (u u':FrameMode) (W:World) (R:World→Prop),(∀ (c₀:Frame) (cs:List Frame),c₀.mode=u→recoverD (c₀::cs)=some (rv,{ c₀ with mode:=u' }::cs)∨(recoverD (c₀::cs)=none∧rv=.nilIface∧{ c₀ with mode:=u' }::cs=c₀::cs)) →
      Calls Tryz.prog 29 #[rv,x] W (fun e W'=>e=.returned (.tuple #[])∧R W')→CallsDIn Fence.wide 0 Tryz.prog f #[x] u W fun e v' W'=>(∃ v,e=.returned v)∧v'=u'∧R W':=by
    intro x rv u u' W R hrec hcall
    refine callsDIn_of_wpSIn hf hb trivial fun c₀ cs hu=>?_
    refine zeh (o:=o0) (rest:=[1]) (v:=rv) (cs':={ c₀ with mode:=u' }::cs) (by rw[ho];rfl) (by rw[ho];rfl) (by simp[Region.wanted,hg0]) (by simp[execOp,h0,resolve,go_sem]) (hrec c₀ cs hu) ?_
    have hev:∀ _:Nat,(#[x]++Array.replicate (fn.ntmps - 1) undef:Array Value)=#[x,undef,undef]:=fun _=>by rw[hn];rfl
    simp only[List.size_toArray,List.length_cons,List.length_nil,Nat.zero_add,hev 0,Act.put,hd0]
    unfold wpOpsIn
    rw[show ops[1]?=some o1 by rw[ho];rfl]
    simp only[Region.wanted,hg1,if_true]
    refine ⟨fun _ _=>trivial,?_⟩
    have hrun:(o1.semAt Fence.wide.round (Act.eval { tmps:=(#[x,undef,undef]:Array Value).setIfInBounds 1 rv,defers:=[] })).run Tryz.prog W=.ok (.enter 29 #[rv,x]) W:=by
      rw[Oper.semAt_eq _ _ _ (by rw[h1];intro c hc;cases hc)]
      simp[execOp,h1,resolve,go_sem,Deferred.ofValue,Act.eval]
    rw[hrun,Oper.uponIn_enter]
    refine ⟨fun h=>by simp[Fence.wide] at h,((callsIn_wide (n:=0)).2 hcall).mono ?_⟩
    rintro e W' ⟨rfl,hR⟩
    simp only[wpOpsIn,Act.put,hd1]
    refine ⟨rfl,u',rfl,.tuple #[],results_none hr _ _ _,⟨_,rfl⟩,rfl,hR⟩
  refine ⟨fun x W=>?_,fun B off y x k n W hc hz hx=>?_⟩
  · refine (hwalk x .nilIface .returning .returning W (Below W.heap.size W) (fun c₀ cs hu=>.inr ⟨by simp[recoverD,hu],rfl,by cases c₀;simp_all⟩) (zjp x W))
  · subst hx
    refine hwalk _ _ _ _ W _ (fun c₀ cs hu=>.inl ?_) (zjo B off y k n W hc hz)
    simp[recoverD,hu]
end Go.Proofs.YtlcjlcllbgjplaaGreat
namespace Go.Proofs.YtlcjlcllbgjplaaGreat
open Go
structure Cls (p:World→Prop) where
  W:World
  ok:p W

theorem Cls.step {N:Nat}{W w2:World}(s:Cls (RowKit.Below N W))(hN:N≤W.heap.size)(hb:RowKit.Below s.W.heap.size s.W w2):∃ s':Cls (RowKit.Below N W),w2=s'.W:=
  ⟨⟨w2,s.ok.trans (hb.mono (Nat.le_trans hN s.ok.size))⟩,rfl⟩

section
variable {P:Program} {ops:Array Oper} {md:Region.Mode} {C:World→Prop}

theorem zei {S:Type}(f:S→World){id:Nat}{Q:Exit→Act→World→Prop}{a:Act}{w:World}{l:List Oper}(hm:P.follows .mixedOrders=true)(hB:Region.lexB .any l.toArray=true)
    (hC:∃ s,w.drew=f s)
    (h:wpQuiet P l.toArray (fun w'=>∃ s,w'=f s) (fun a'=>∀ s,Q .normal a' (f s)) l a):(Code.region id l.toArray true).wp P Q a w:=
  wp_region_quiet hm hB hC (by
    have:(fun a'=>∀ s,Q .normal a' (f s))=(fun a'=>∀ w',(∃ s,w'=f s)→Q .normal a' w'):=by funext a';simp
    rw[this] at h;exact h)
end
end Go.Proofs.YtlcjlcllbgjplaaGreat
namespace Go.Proofs.YtlcjlcllbgjplaaGreat
open Go Go.Proofs Go.RowKit
theorem quietV {P:Program}{S:Type}[Nonempty S]{f:S→World}{ops:Array Oper}{Q:Act→Prop}{o:Oper}{rest:List Oper}{a:Act}{v:Value}
    (h:∀ s:S,(execOp a.eval o).run P (f s)=.ok (.value v) (f s)) (hg:Region.wanted o (yielded ops a.tmps)=true) (hq:wpQuiet P ops (fun w'=>∃ s,w'=f s) Q rest (a.put o.dst v)):wpQuiet P ops (fun w'=>∃ s,w'=f s) Q (o::rest) a:=by
  refine wpQuiet_step fun K hK=>?_
  rw[if_pos hg]
  refine ⟨v,?_,hK _ hq⟩
  rintro w ⟨s,rfl⟩
  unfold Oper.quietAt
  rw[h s]
  exact ⟨rfl,rfl⟩
set_option maxHeartbeats 400000 in
set_option maxRecDepth 100000 in
theorem zpj (s k f h d:Int)(W:World):Calls Tryz.prog 115 #[.agg #[.int .i64 s,.int .i64 k,.int .i64 f],.int .i64 h,.int .i64 d] W fun e W'=>
    e=.returned (.int .i64 (min f (IntKind.i64.wrap (h+IntKind.i64.wrap (d * k)))))∧Below W.heap.size W W':=by
  go_enter Tryz.func115,Tryz.ntmps115
  go_wp2
  all_goals refine ⟨rfl,_,results_tmp rfl _ _ _,?_,(Below.refl _ _).alloc (Nat.le_refl _) _⟩
  · rename_i hlt
    simp only[Array.getD_eq_getD_getElem?,List.getElem?_toArray,List.getElem?_cons_succ,List.getElem?_cons_zero,Option.getD_some,Ending.returned.injEq,Value.int.injEq,true_and]
    have hw:∀ n,IntKind.i64.wrap n=wrap64 n:=fun n=>by rw[IntKind.wrap_i64];unfold wrap64;first|rfl|omega
    simp only[hw]
    omega
  · rename_i hlt
    simp only[Array.getD_eq_getD_getElem?,List.getElem?_toArray,List.getElem?_cons_succ,List.getElem?_cons_zero,Option.getD_some,Ending.returned.injEq,Value.int.injEq,true_and]
    have hw:∀ n,IntKind.i64.wrap n=wrap64 n:=fun n=>by rw[IntKind.wrap_i64];unfold wrap64;first|rfl|omega
    simp only[hw]
    omega
set_option maxHeartbeats 400000 in
set_option maxRecDepth 100000 in
theorem zxz (p:Value)(h l:Int)(W:World):Calls Tryz.prog 140 #[.agg #[],p,.int .i64 h,.int .i64 l] W fun e W'=>
    e=.returned (.int .i64 h)∧Below W.heap.size W W':=by
  go_enter Tryz.func140,Tryz.ntmps140
  go_wp2
  all_goals refine ⟨rfl,_,results_tmp rfl _ _ _,rfl,((Below.refl _ _).alloc (Nat.le_refl _) _).alloc (by simp) _⟩
theorem yab (days:Int)(B:Nat)(W:World)(hb:W.heap[B]?=some (.cells #[.int .i64 days] 126 (0,0))):(Instr.fieldAt 126 (.pointer (some ⟨B,0,none⟩)) 0).run Tryz.prog W=.ok (.pointer (some ⟨B,0,none⟩)) W:=by
  have h1:Tryz.prog.cellsOf 126=1:=by kernel_rfl
  have h2:∀ w,(sizeOf 124).run Tryz.prog w=.ok 0 w:=fun w=>by kernel_rfl
  have hsh:(shape B).run Tryz.prog W=.ok (some (126,1)) W:=by simp[shape,Sem.run,World.shape?,hb]
  have h3:byteOfCell Tryz.prog Tryz.prog.depth 126 0=some 0:=by kernel_rfl
  have hs':W.shape? B=some (126,1):=by simp[World.shape?,hb]
  have hva:(viewAt B).run Tryz.prog W=.ok none W:=by simp[viewAt,hs']
  have hnv:(noView ⟨B,0,none⟩).run Tryz.prog W=.ok () W:=by simp[noView,hva,Result.andThen]
  simp[Instr.fieldAt,run_underlying Tryz.underlying126,Instr.sureAddr,fieldPlace,h2,partAt,byteOf,hnv,hs',h1,h3,Result.andThen]

set_option maxHeartbeats 1000000 in
set_option maxRecDepth 100000 in
theorem zxn (days s k f h l:Int)(W:World):Calls Tryz.prog 141 #[.agg #[.int .i64 days],.agg #[.int .i64 s,.int .i64 k,.int .i64 f],.int .i64 h,.int .i64 l] W fun e W'=>
    e=.returned (.int .i64 (min f (IntKind.i64.wrap (h+IntKind.i64.wrap (days * k)))))∧Below W.heap.size W W':=by
  have hld:∀ (B:Nat) (w:World),(Instr.loadAt 124 (.pointer (some ⟨B,0,none⟩))).run Tryz.prog w=.ok (.agg #[]) w:=fun B w=>by
    have h2:(sizeOf 124).run Tryz.prog w=.ok 0 w:=by kernel_rfl
    simp[Instr.loadAt,Instr.sureAddr,loadVar,isAgg,run_underlying Tryz.underlying124,loadCells,loadCellsFrom]
  go_enter Tryz.func141,Tryz.ntmps141
  go_wp2
  obtain ⟨W2,hW2⟩:∃ W2,W2=(W.alloc (Obj.cells #[Value.int IntKind.i64 days] 126)).alloc (Obj.cells #[Value.int IntKind.i64 s,Value.int IntKind.i64 k,Value.int IntKind.i64 f] 57):=⟨_,rfl⟩
  have g4:W2.heap[W.heap.size]?=some (.cells #[.int .i64 days] 126 (0,0)):=by
    rw[hW2,Below.heap_alloc _ _ _ (by simp)];exact World.alloc_heap_new W _
  have g5:W2.heap[W.heap.size+1]?=some (.cells #[.int .i64 s,.int .i64 k,.int .i64 f] 57 (0,0)):=by
    rw[hW2];have:=World.alloc_heap_new (W.alloc (Obj.cells #[Value.int IntKind.i64 days] 126)) (Obj.cells #[Value.int IntKind.i64 s,Value.int IntKind.i64 k,Value.int IntKind.i64 f] 57);rwa [World.size_alloc] at this
  have hbel:Below W.heap.size W W2:=by rw[hW2];exact ((Below.refl _ _).alloc (Nat.le_refl _) _).alloc (by simp) _
  rw[← hW2]
  clear hW2
  have l4:W.heap.size<W2.heap.size:=(Array.getElem?_eq_some_iff.1 g4).1
  have l5:W.heap.size+1<W2.heap.size:=(Array.getElem?_eq_some_iff.1 g5).1
  have q4:W2.cell? ⟨W.heap.size,0,none⟩=some (.int .i64 days):=by simp[World.cell?,g4]
  have q50:W2.cell? ⟨W.heap.size+1,0,none⟩=some (.int .i64 s):=by simp[World.cell?,g5]
  have q51:W2.cell? ⟨W.heap.size+1,1,none⟩=some (.int .i64 k):=by simp[World.cell?,g5]
  have q52:W2.cell? ⟨W.heap.size+1,2,none⟩=some (.int .i64 f):=by simp[World.cell?,g5]
  have hb4:∀ st:Cls (Below W2.heap.size W2),st.W.heap[W.heap.size]?=some (.cells #[.int .i64 days] 126 (0,0)):=fun st=>(st.ok.block _ l4).trans g4
  generalize hp:W.heap.size=p4 at *
  have hcl:∃ s:Cls (Below (W2.heap.size) (W2)),(W2).drew=s.W:=⟨⟨_,(Below.refl _ _).drew⟩,rfl⟩
  have hne:Nonempty (Cls (Below (W2.heap.size) (W2))):=⟨⟨_,Below.refl _ _⟩⟩
  have hS:∀ (s:Cls (Below (W2.heap.size) (W2))) (b o:Nat),b<W2.heap.size→s.W.cell? ⟨b,o,none⟩=(W2).cell? ⟨b,o,none⟩:=fun s b o h=>s.ok.cell (p:=⟨b,o,none⟩) h
  have hSf:∀ (s:Cls (Below (W2.heap.size) (W2))) (b o:Nat),b<W2.heap.size→s.W.frozen? ⟨b,o,none⟩=(W2).frozen? ⟨b,o,none⟩:=fun s b o h=>s.ok.frozen (p:=⟨b,o,none⟩) h
  refine zei (S:=Cls (Below W2.heap.size W2)) Cls.W (by kernel_rfl) (by kernel_rfl) hcl ?_
  clear hcl
  go_big_quiet_step (fail)
  refine quietV (v:=.pointer (some ⟨p4,0,none⟩)) (fun st=>?_) rfl ?_
  · have:=yab days p4 st.W (hb4 st)
    simp[execOp,Act.eval,this]
  simp only[Act.put,List.setIfInBounds_toArray,List.set_cons_succ,List.set_cons_zero]
  refine quietV (v:=.agg #[]) (fun st=>?_) rfl ?_
  · have:=hld p4 st.W
    simp[execOp,Act.eval,this]
  simp only[Act.put,List.setIfInBounds_toArray,List.set_cons_succ,List.set_cons_zero]
  repeat (go_big_quiet_step ((first|(go_at_call 140;refine (zxz _ _ _ _).mono ?_;rintro e w2 ⟨rfl,hb⟩;exact ⟨rfl,Cls.step _ (Nat.le_refl _) hb⟩)|(go_at_call 115;refine (zpj _ _ _ _ _ _).mono ?_;rintro e w2 ⟨rfl,hb⟩;exact ⟨rfl,Cls.step _ (Nat.le_refl _) hb⟩))))
  refine wpQuiet_nil ?_
  intro st
  have hfin:=hbel.trans (st.ok.mono (Nat.le_of_lt l4))
  clear hS hSf hne hb4 g4 g5 q4 q50 q51 q52 l4 l5
  generalize st.W=W3 at *
  clear st
  go_wp2
  exact ⟨rfl,_,results_tmp rfl _ _ _,rfl,by rw[hp];exact hfin⟩
end Go.Proofs.YtlcjlcllbgjplaaGreat
namespace Go.Proofs.YtlcjlcllbgjplaaGreat
open Go
namespace Ev
def closures:List Nat:=[28,40,49,67,71,63,54,70]
noncomputable def memN:List Nat→Nat→Bool:=fun l=>List.rec (motive:=fun _=>Nat→Bool) (fun _=>false) (fun x _ ih n=>Bool.rec (ih n) true (Nat.beq n x)) l
noncomputable def restV (d k f h:Int):Option AV:=Bool.rec none (some (.int .i64 (Bool.rec (Q.addI h (d * k)) f (Q.leI f (Q.addI h (d * k)))))) (Q.andB (Q.fits .i64 (d * k)) (Q.fits .i64 (Q.addI h (d * k))))
noncomputable def restG (args:List AV):Option AV:=match args with
  |[.agg [.int .i64 d],.agg [.int .i64 _,.int .i64 k,.int .i64 f],.int .i64 h,.int .i64 _]=>restV d k f h
  |_=>none
end Ev
end Go.Proofs.YtlcjlcllbgjplaaGreat
namespace Go.Proofs.YtlcjlcllbgjplaaGreat
open Go Go.Proofs
namespace Ev
set_option maxRecDepth 100000
theorem dfHeight:DfOk Tryz.prog 28 114 true:=by
  obtain ⟨h1,h2⟩:=zbj (f:=28) Tryz.func28 rfl rfl rfl (by kernel_rfl) rfl rfl rfl rfl rfl rfl rfl
  exact ⟨⟨_,Tryz.func28,by kernel_rfl,by kernel_rfl⟩,h1,fun B off y x k n W hc hz hx=>h2 B off y x k n W hc hz (by simpa using hx)⟩
theorem dfSinks:DfOk Tryz.prog 40 114 true:=by
  obtain ⟨h1,h2⟩:=zbj (f:=40) Tryz.func40 rfl rfl rfl (by kernel_rfl) rfl rfl rfl rfl rfl rfl rfl
  exact ⟨⟨_,Tryz.func40,by kernel_rfl,by kernel_rfl⟩,h1,fun B off y x k n W hc hz hx=>h2 B off y x k n W hc hz (by simpa using hx)⟩
theorem dfBears:DfOk Tryz.prog 49 114 true:=by
  obtain ⟨h1,h2⟩:=zbj (f:=49) Tryz.func49 rfl rfl rfl (by kernel_rfl) rfl rfl rfl rfl rfl rfl rfl
  exact ⟨⟨_,Tryz.func49,by kernel_rfl,by kernel_rfl⟩,h1,fun B off y x k n W hc hz hx=>h2 B off y x k n W hc hz (by simpa using hx)⟩
theorem dfRest:DfOk Tryz.prog 67 114 true:=by
  obtain ⟨h1,h2⟩:=zbj (f:=67) Tryz.func67 rfl rfl rfl (by kernel_rfl) rfl rfl rfl rfl rfl rfl rfl
  exact ⟨⟨_,Tryz.func67,by kernel_rfl,by kernel_rfl⟩,h1,fun B off y x k n W hc hz hx=>h2 B off y x k n W hc hz (by simpa using hx)⟩
theorem dfClash:DfOk Tryz.prog 71 114 true:=by
  obtain ⟨h1,h2⟩:=zbj (f:=71) Tryz.func71 rfl rfl rfl (by kernel_rfl) rfl rfl rfl rfl rfl rfl rfl
  exact ⟨⟨_,Tryz.func71,by kernel_rfl,by kernel_rfl⟩,h1,fun B off y x k n W hc hz hx=>h2 B off y x k n W hc hz (by simpa using hx)⟩
theorem dfMost:DfOk Tryz.prog 63 114 true:=by
  obtain ⟨h1,h2⟩:=zbj (f:=63) Tryz.func63 rfl rfl rfl (by kernel_rfl) rfl rfl rfl rfl rfl rfl rfl
  exact ⟨⟨_,Tryz.func63,by kernel_rfl,by kernel_rfl⟩,h1,fun B off y x k n W hc hz hx=>h2 B off y x k n W hc hz (by simpa using hx)⟩
theorem dfBelow:DfOk Tryz.prog 54 114 true:=by
  obtain ⟨h1,h2⟩:=zbj (f:=54) Tryz.func54 rfl rfl rfl (by kernel_rfl) rfl rfl rfl rfl rfl rfl rfl
  exact ⟨⟨_,Tryz.func54,by kernel_rfl,by kernel_rfl⟩,h1,fun B off y x k n W hc hz hx=>h2 B off y x k n W hc hz (by simpa using hx)⟩
theorem dfWeak:DfOk Tryz.prog 70 114 true:=by
  obtain ⟨h1,h2⟩:=zbj (f:=70) Tryz.func70 rfl rfl rfl (by kernel_rfl) rfl rfl rfl rfl rfl rfl rfl
  exact ⟨⟨_,Tryz.func70,by kernel_rfl,by kernel_rfl⟩,h1,fun B off y x k n W hc hz hx=>h2 B off y x k n W hc hz (by simpa using hx)⟩
theorem znm:∀ {l:List Nat} {n:Nat},memN l n=true→n∈l
  |[],n,h=>by cases h
  |x::l,n,h=>by
    have e:memN (x::l) n=(Bool.rec (memN l n) true (Nat.beq n x):Bool):=rfl
    rw[e] at h
    cases hb:Nat.beq n x with
    |true=>rw[Nat.eq_of_beq_eq_true hb];exact List.mem_cons_self ..
    |false=>rw[hb] at h;exact List.mem_cons_of_mem _ (znm h)
theorem dfk_ok:∀ f t ag,(Bool.rec none (some (114,true)) (memN closures f):Option (Nat × Bool))=some (t,ag)→DfOk Tryz.prog f t ag:=by
  intro f t ag h
  cases hb:memN closures f with
  |false=>rw[hb] at h;cases h
  |true=>
    rw[hb] at h
    cases h
    have hm:=znm hb
    simp only[closures,List.mem_cons,List.not_mem_nil,or_false] at hm
    rcases hm with rfl|rfl|rfl|rfl|rfl|rfl|rfl|rfl
    · exact dfHeight
    · exact dfSinks
    · exact dfBears
    · exact dfRest
    · exact dfClash
    · exact dfMost
    · exact dfBelow
    · exact dfWeak
theorem zxo {d k f h:Int}{v:AV}(hv:restV d k f h=some v):v=.int .i64 (min f (IntKind.i64.wrap (h+IntKind.i64.wrap (d * k)))):=by
  unfold restV at hv
  cases hb:Q.andB (Q.fits .i64 (d * k)) (Q.fits .i64 (Q.addI h (d * k))) with
  |false=>rw[hb] at hv;cases hv
  |true=>
    rw[hb] at hv
    rw[Q.andB_eq,Bool.and_eq_true] at hb
    rw[Q.fits_wrap hb.1,← Q.addI_eq,Q.fits_wrap hb.2]
    cases hv
    rw[Q.leI_eq,Q.addI_eq]
    by_cases hle:f≤h+d * k
    · simp[hle,Int.min_eq_left hle]
    · simp[hle];omega
theorem zxm (args:List AV)(v:AV)(rargs:Array Value)(W:World)(L:Nat→Prop)(μ:Mu)(hv:restG args=some v)(hr:VL W L μ args rargs.toList):
    CallsIn Fence.wide 0 Tryz.prog 141 rargs W fun e W'=>(∃ w,e=.returned w∧∀ W L μ,VR W L μ v w)∧RowKit.Below W.heap.size W W':=by
  unfold restG at hv
  split at hv
  · rename_i d s k f h l
    obtain ⟨xs,hxs⟩:∃ xs,rargs.toList=xs:=⟨_,rfl⟩
    rw[hxs] at hr
    have hl:=hr.1
    match xs,hl,hr with
    |[x0,x1,x2,x3],_,hr=>
      obtain ⟨a0,rfl,v0⟩:=vr_agg hr.head
      obtain ⟨a1,rfl,v1⟩:=vr_agg hr.tail.head
      have e2:=vr_int hr.tail.tail.head
      have e3:=vr_int hr.tail.tail.tail.head
      subst e2 e3
      have l0:=v0.1
      have l1:=v1.1
      match a0,l0,v0,a1,l1,v1 with
      |[y0],_,v0,[z0,z1,z2],_,v1=>
        have f0:=vr_int v0.head
        have f1:=vr_int v1.head
        have f2:=vr_int v1.tail.head
        have f3:=vr_int v1.tail.tail.head
        subst f0 f1 f2 f3
        have:rargs=#[.agg #[.int .i64 d],.agg #[.int .i64 s,.int .i64 k,.int .i64 f],.int .i64 h,.int .i64 l]:=Array.ext' (by rw[hxs])
        subst this
        refine (callsIn_wide.2 (zxn d s k f h l W)).mono ?_
        rintro e W' ⟨rfl,hb⟩
        exact ⟨⟨_,rfl,fun _ _ _=>by rw[zxo hv];exact .int⟩,hb⟩
  · cases hv
theorem zpk : ∃ F, Tryz.prog.funcs[141]? = some F ∧ (F.name == "runtime.NumGoroutine")=false∧F.body.isNone=false:=⟨_,Tryz.func141,by kernel_rfl,by kernel_rfl⟩
end Ev
end Go.Proofs.YtlcjlcllbgjplaaGreat
namespace Go.Proofs.YtlcjlcllbgjplaaGreat
open Go Go.RowKit
namespace Ev
section
variable {P:Program} {W:World} {L:Nat→Prop} {μ:Mu} {H:List AB}
theorem zst {k:Nat}{v:AV}{news:List AV}(h:slCells k H v=some news):∃ n,slLen H v=some n:=by
  unfold slCells at h
  split at h
  · exact ⟨_,rfl⟩
  · exact ⟨_,rfl⟩
  · rename_i b off n k'
    split at h
    · split at h
      · rename_i cs hcs
        exact ⟨n,by simp[slLen,alive,hcs]⟩
      · cases h
    · cases h
  · cases h
theorem zkl (hs:Sim P W L μ H){k:Nat}(hk:0<k){v:AV}{x:Value}(hv:VR W L μ v x){es:List AV}(hes:∀ (i:Nat) (e:AV),es[i]?=some e→e.cells.length=k)(hn:∀ e∈es,∀ y∈e.cells,∃ (kd:IntKind) (n:Int),y=.int kd n)(hc:slCells k H v=some (elemCells es)):
    VR W (fun _=>False) nomu (.vs k es) x:=by
  obtain ⟨n,hl⟩:=zst hc
  obtain ⟨p,cap,rfl,h1,h2,h3⟩:=zfi hs hk hv hc hl
  obtain ⟨e1,e2⟩:=zdm hk hes
  have hnm:n=es.length:=Nat.eq_of_mul_eq_mul_right hk (by omega)
  subst hnm
  by_cases h0:es.length=0
  · have:es=[]:=List.eq_nil_of_length_eq_zero h0
    subst this
    exact .vs0
  · rcases h3 with h3|⟨b,o,rfl,hr⟩
    · exact absurd h3 h0
    · have key:∀ (i:Nat) (e:AV) (j:Nat) (y:AV),es[i]?=some e→e.cells[j]?=some y→∃ r,W.cell? ⟨b,o+i * k+j,none⟩=some r∧VR W (fun _=>False) nomu y r:=by
        intro i e j y he hy
        have hjk:j<k:=by have:=(List.getElem?_eq_some_iff.1 hy).1;rw[hes i e he] at this;exact this
        have hi:=(List.getElem?_eq_some_iff.1 he).1
        have hq:i * k+j<(elemCells es).length:=by
          rw[e1]
          have:(i+1) * k≤es.length * k:=Nat.mul_le_mul_right k hi
          rw[Nat.add_mul,Nat.one_mul] at this
          omega
        obtain ⟨e',g1,g2⟩:=e2 _ _ (List.getElem?_eq_getElem hq)
        have d1:(i * k+j) / k=i:=by rw[Nat.mul_comm,Nat.mul_add_div hk,Nat.div_eq_of_lt hjk,Nat.add_zero]
        have d2:(i * k+j) % k=j:=by rw[Nat.mul_comm,Nat.mul_add_mod,Nat.mod_eq_of_lt hjk]
        rw[d1,he] at g1
        cases g1
        rw[d2,hy] at g2
        obtain ⟨r,q1,q2⟩:=hr _ _ (List.getElem?_eq_getElem hq)
        rw[← Option.some.inj g2] at q2
        obtain ⟨kd,m,rfl⟩:=hn e (List.mem_of_getElem? he) y (List.mem_of_getElem? hy)
        refine ⟨r,by rw[Nat.add_assoc];exact q1,?_⟩
        cases q2 with
        |dead h=>simp[headRef] at h
        |int=>exact .int
      refine .vs (fun i j=>(W.cell? ⟨b,o+i * k+j,none⟩).getD undef) h2 hes (fun i e j y he hy=>⟨id,?_⟩) fun i e j y he hy=>?_
      · obtain ⟨r,q1,_⟩:=key i e j y he hy
        rw[q1];rfl
      · obtain ⟨r,q1,q2⟩:=key i e j y he hy
        rw[q1];exact q2
theorem zxf:Sim P W (fun _=>False) nomu []:={ live:=fun i B h=>(by cases h),dead:=fun i b h _=>(by cases h),out:=fun _ _=>rfl,inj:=fun i j B h _=>(by cases h),lt:=fun b h=>h.elim }
theorem zrz {C:Cfg}(hT:TblOk P C){m f:Nat}{args:List AV}{x:CRes}{H':List AB}{tc:List Nat}(h:Ev.call C m (.fn (.func f) [] []) args []=some (x,H',tc))(hG:Globs C W (fun _=>False)){rargs:Array Value}(hv:VL W (fun _=>False) nomu args rargs.toList):
    CallsIn Fence.wide 0 P f rargs W fun e W'=>(∃ L' μ',CRel W' L' μ' x e∧Sim P W' L' μ' H'∧∀ b,L' b→W.heap.size≤b)∧Below W.heap.size W W':=by
  have hok:=zmq hT m
  obtain ⟨r,W1,h1,h2⟩:=hok.sound (tc0:=[]) h (Hp.start (P:=P) zxf) hG
    (rf:=.func (.func f) #[] #[]) (rargs:=rargs) (.fn (rf:=[]) (rc:=[]) (by intro l;simp) rfl (by intro i x r h;simp at h) rfl (by intro i x r h;simp at h)) hv
  have e:(do let d ← Deferred.ofValue (.func (.func f) #[] #[]) rargs;invoke d.target d.args:Sem Next).run P W=.ok (.enter f rargs) W:=by
    simp only[Deferred.ofValue,Sem.run_bind,Sem.run_pure,Result.andThen,invoke]
    have:=hok.fn h rargs W
    simpa using this
  rw[e] at h1
  cases h1
  refine CallsIn.mono h2 ?_
  rintro en W' ⟨L',μ',c1,c2,_⟩
  refine ⟨⟨L',μ',c1,c2.sim,fun b hb=>?_⟩,c2.env.1,c2.env.2.1,c2.env.2.2,c2.size,fun k hk=>c2.same k hk fun i _ hi=>by cases hi⟩
  rcases c2.new b hb with h|h
  · exact h.elim
  · exact h
def Bare:AV→Prop
  |.int _ _=>True
  |.bool _=>True
  |.agg cs=>∀ x∈cs,(∃ k n,x=.int k n)∨∃ b,x=.bool b
  |.tup cs=>∀ x∈cs,(∃ k n,x=.int k n)∨(∃ b,x=.bool b)∨∃ l,x=.agg l∧∀ y∈l,∃ k n,y=.int k n
  |_=>False
theorem zek {W':World}{L':Nat→Prop}{μ':Mu}{x:AV}{r:Value}(hx:(∃ k n,x=.int k n)∨∃ b,x=.bool b)(h:VR W L μ x r):VR W' L' μ' x r:=by
  rcases hx with ⟨k,n,rfl⟩|⟨b,rfl⟩
  · cases h with
    |dead h=>simp[headRef] at h
    |int=>exact .int
  · cases h with
    |dead h=>simp[headRef] at h
    |bool=>exact .bool
theorem zzh {v:AV}(hb:Bare v){W':World}{L':Nat→Prop}{μ':Mu}{r:Value}(h:VR W L μ v r):VR W' L' μ' v r:=by
  cases v with
  |int k n=>exact zek (.inl ⟨k,n,rfl⟩) h
  |bool b=>exact zek (.inr ⟨b,rfl⟩) h
  |agg cs=>
    cases h with
    |dead h=>simp[headRef] at h
    |agg h1 h2=>exact .agg h1 fun i x r hx hr=>zek (hb x (List.mem_of_getElem? hx)) (h2 i x r hx hr)
  |tup cs=>
    cases h with
    |dead h=>simp[headRef] at h
    |tup h1 h2=>
      refine .tup h1 fun i x r hx hr=>?_
      rcases hb x (List.mem_of_getElem? hx) with h|h|⟨l,rfl,hl⟩
      · exact zek (.inl h) (h2 i x r hx hr)
      · exact zek (.inr h) (h2 i x r hx hr)
      · have:=h2 i _ r hx hr
        cases this with
        |dead h=>simp[headRef] at h
        |agg g1 g2=>exact .agg g1 fun i x r hx hr=>zek (.inl (hl x (List.mem_of_getElem? hx))) (g2 i x r hx hr)
  |_=>exact hb.elim
theorem zjm {C:Cfg}(hT:TblOk P C){m f:Nat}{args:List AV}{v:AV}{H':List AB}{tc:List Nat}(h:Ev.call C m (.fn (.func f) [] []) args []=some (.ret v,H',tc))(hb:Bare v)(hG:Globs C W (fun _=>False)){rargs:Array Value}(hv:VL W (fun _=>False) nomu args rargs.toList):
    CallsIn Fence.wide 0 P f rargs W fun e W'=>(∃ w,e=.returned w∧∀ W L μ,VR W L μ v w)∧Below W.heap.size W W':=by
  refine (zrz hT h hG hv).mono ?_
  rintro en W' ⟨⟨L',μ',c1,_⟩,c2⟩
  cases en<;>simp only[CRel] at c1
  exact ⟨⟨_,rfl,fun _ _ _=>zzh hb c1⟩,c2⟩
end
end Ev
end Go.Proofs.YtlcjlcllbgjplaaGreat
namespace Go.Proofs.YtlcjlcllbgjplaaGreat
open Go
namespace Ev
namespace Ro
open K
set_option maxRecDepth 100000
def ptCs:List Rd.Pt→List AV
  |[]=>[]
  |p::l=>.int .i64 p.height.lo::.int .i64 p.height.hi::.int .i64 p.stiff.lo::.int .i64 p.stiff.hi::.int .i64 p.rise.lo::.int .i64 p.rise.hi::.int .i64 p.full::ptCs l
def evCs:List Rd.Evt→List AV
  |[]=>[]
  |v::l=>.int .i64 v.kind::.int .i64 v.load.lo::.int .i64 v.load.hi::.int .i64 v.days::.int .i64 v.part::.int .i64 v.shows.lo::.int .i64 v.shows.hi::evCs l
def ptsC:List AV→Option (List Rd.Pt)
  |[]=>some []
  |.int .i64 a::.int .i64 b::.int .i64 c::.int .i64 d::.int .i64 e::.int .i64 f::.int .i64 g::l=>(ptsC l).map (⟨⟨a,b⟩,⟨c,d⟩,⟨e,f⟩,g⟩::·)
  |_=>none
def evsC:List AV→Option (List Rd.Evt)
  |[]=>some []
  |.int .i64 a::.int .i64 b::.int .i64 c::.int .i64 d::.int .i64 e::.int .i64 f::.int .i64 g::l=>(evsC l).map (⟨a,⟨b,c⟩,d,e,⟨f,g⟩⟩::·)
  |_=>none
@[simp] theorem zzs:∀ l,ptsC (ptCs l)=some l
  |[]=>rfl
  |p::l=>by simp[ptCs,ptsC,zzs l]
@[simp] theorem yai:∀ l,evsC (evCs l)=some l
  |[]=>rfl
  |e::l=>by simp[evCs,evsC,yai l]
theorem zzt:∀ {cs l},ptsC cs=some l→cs=ptCs l:=by
  intro cs
  induction cs using ptsC.induct with
  |case1=>intro l h;cases h;rfl
  |case2 a b c d e f g cs ih=>
    intro l h
    obtain ⟨l',h1,rfl⟩:=Option.map_eq_some_iff.1 h
    rw[ih h1];rfl
  |case3 cs h1 h2=>intro l h;unfold ptsC at h;split at h<;>first|exact absurd rfl h1|exact (h2 _ _ _ _ _ _ _ _ rfl).elim|cases h
theorem yaj:∀ {cs l},evsC cs=some l→cs=evCs l:=by
  intro cs
  induction cs using evsC.induct with
  |case1=>intro l h;cases h;rfl
  |case2 a b c d e f g cs ih=>
    intro l h
    obtain ⟨l',h1,rfl⟩:=Option.map_eq_some_iff.1 h
    rw[ih h1];rfl
  |case3 cs h1 h2=>intro l h;unfold evsC at h;split at h<;>first|exact absurd rfl h1|exact (h2 _ _ _ _ _ _ _ _ rfl).elim|cases h
@[simp] theorem zob:∀ l:List Rd.Pt,elemCells (l.map ptE)=ptCs l
  |[]=>rfl
  |p::l=>by simp[elemCells,ptE,AV.cells,ptCs,zob l]
@[simp] theorem zoc:∀ l:List Rd.Evt,elemCells (l.map evE)=evCs l
  |[]=>rfl
  |p::l=>by simp[elemCells,evE,AV.cells,evCs,zoc l]
def ptsV (H:List AB)(v:AV)(l:List Rd.Pt):Prop:=slCells 7 H v=some (ptCs l)
def evsV (H:List AB)(v:AV)(l:List Rd.Evt):Prop:=slCells 7 H v=some (evCs l)
def roadOf (H:List AB)(v:AV):Option Rd.Road:=match v with
  | .agg [pv, ev] => (match (slCells 7 H pv).bind ptsC, (slCells 7 H ev).bind evsC with
    |some ps,some es=>if ps.length≤40∧es.length≤50 then some ⟨ps,es⟩ else none
    |_,_=>none)
  |_=>none
theorem ztf {H:List AB}{pv ev:AV}{ps:List Rd.Pt}{es:List Rd.Evt}(h1:ptsV H pv ps)(h2:evsV H ev es)(hp:ps.length≤40)(he:es.length≤50):roadOf H (.agg [pv,ev])=some ⟨ps,es⟩:=by
  unfold ptsV at h1
  unfold evsV at h2
  simp[roadOf,h1,h2,hp,he]
theorem zhu {H:List AB}{v:AV}{r:Rd.Road}(h:roadOf H v=some r):∃ pv ev,v=.agg [pv,ev]∧ptsV H pv r.parts∧evsV H ev r.events∧r.parts.length≤40∧r.events.length≤50:=by
  unfold roadOf at h
  split at h
  · rename_i pv ev
    split at h
    · rename_i ps es h1 h2
      split at h
      · rename_i hb
        cases h
        obtain ⟨c1,e1,f1⟩:=Option.bind_eq_some_iff.1 h1
        obtain ⟨c2,e2,f2⟩:=Option.bind_eq_some_iff.1 h2
        exact ⟨pv,ev,rfl,by unfold ptsV;rw[e1,zzt f1],by unfold evsV;rw[e2,yaj f2],hb.1,hb.2⟩
      · cases h
    · cases h
  · cases h
theorem zzr (H:List AB)(l:List Rd.Pt):ptsV H (.vs 7 (l.map ptE)) l:=by simp[ptsV,slCells]
theorem yah (H:List AB)(l:List Rd.Evt):evsV H (.vs 7 (l.map evE)) l:=by simp[evsV,slCells]
theorem zit (H:List AB)(r:Rd.Road)(hp:r.parts.length≤40)(he:r.events.length≤50):roadOf H (.agg (roadCs r))=some r:=ztf (zzr H r.parts) (yah H r.events) hp he
end Ro
end Ev
end Go.Proofs.YtlcjlcllbgjplaaGreat
namespace Go.Proofs.YtlcjlcllbgjplaaGreat
open Go Go.Proofs Go.RowKit
namespace Ev
namespace Ro
open K
set_option maxRecDepth 100000
set_option maxHeartbeats 4000000
theorem zbh (W:World)(L:Nat→Prop)(C:Cfg):Globs C W L:=fun g cs h=>by cases h
noncomputable def cfgK:Cfg where
  fns:=FT.find fnTree
  glob:=fun _=>none
  dfk:=fun f=>Bool.rec none (some (114,true)) (memN closures f)
  ext:=fun f=>Bool.rec none (some restG) (Nat.beq f 141)
  exth:=fun _=>none
  calm:=true
  whole:=fun _=>true
theorem known (f : Nat) (h : ∃ F, Tryz.prog.funcs[f]? = some F ∧ (F.name == "runtime.NumGoroutine")=false∧∃ af:AFunc,compFn Tryz.prog F=some af.strip):∃ F,Tryz.prog.funcs[f]?=some F∧(F.name== "runtime.NumGoroutine")=false∧F.body.isNone=false:=by
  obtain ⟨F,f1,f2,af,f3⟩:=h
  obtain ⟨c,g1,_⟩:=zhh f3
  exact ⟨F,f1,f2,by rw[g1];rfl⟩
theorem tblK:TblOk Tryz.prog cfgK:=by
  refine ⟨fun f fn h=>FT.find_all zrw h,fun f g h=>?_,fun _ _ h=>(by cases h),dfk_ok⟩
  have e:cfgK.ext f=(Bool.rec none (some restG) (Nat.beq f 141):Option (List AV→Option AV)):=rfl
  rw[e] at h
  cases hb:Nat.beq f 141 with
  |false=>rw[hb] at h;cases h
  |true=>
    rw[hb] at h
    cases h
    obtain rfl:=Nat.eq_of_beq_eq_true hb
    exact ⟨zpk,zxm⟩
theorem has_of {C:Cfg}{f:Nat}{af:AFunc}(h1:C.ext f=none)(h2:C.exth f=none)(h3:C.fns f=some af)(h4:C.whole f=true):Has C f af:=⟨h1,h2,h3,h4⟩
theorem znu {n:Int}(h0:-1000000000≤n)(h1:n≤1000000000):Q.fits .i64 n=true:=by
  cases n with
  |ofNat m=>
    have h:m≤9223372036854775807:=by simp only[Int.ofNat_eq_natCast] at h1;omega
    exact Nat.ble_eq_true_of_le h
  |negSucc m=>
    have h:Nat.succ m≤9223372036854775808:=by omega
    exact Nat.ble_eq_true_of_le h
theorem rest_k (n:Nat)(H:List AB)(d:Int)(p:Rd.Tr)(hp:TrOk p)(h l:Int)(h0:-1000000≤h)(h1:h≤1000000)(d0:0≤d)(d1:d≤1000):Ev.call cfgK (n+1) (.fn (.func 141) [] []) [.agg [.int .i64 d],.agg [.int .i64 p.stiff,.int .i64 p.rise,.int .i64 p.full],.int .i64 h,.int .i64 l] H=some (.ret (.int .i64 (Rd.rested p h d)),H,[]):=by
  show enter cfgK (Ev.call cfgK n) 141 ([]++[.agg [.int .i64 d],.agg [.int .i64 p.stiff,.int .i64 p.rise,.int .i64 p.full],.int .i64 h,.int .i64 l]++[]) H=_
  unfold enter
  have e1:cfgK.ext 141=some restG:=rfl
  rw[e1]
  have hm0:0≤d * p.rise:=Int.mul_nonneg d0 hp.r1
  have hm1:d * p.rise≤5000:=by
    have:=Int.mul_le_mul d1 hp.r2 hp.r1 (by decide)
    omega
  have e2:restG ([]++[.agg [.int .i64 d],.agg [.int .i64 p.stiff,.int .i64 p.rise,.int .i64 p.full],.int .i64 h,.int .i64 l]++[])=some (.int .i64 (Rd.rested p h d)):=by
    show restV d p.rise p.full h=_
    unfold restV
    rw[Q.addI_eq,znu (by omega) (by omega),znu (by omega) (by omega)]
    show some (AV.int .i64 (Bool.rec (h+d * p.rise) p.full (Q.leI p.full (h+d * p.rise))))=_
    rw[Q.leI_eq]
    unfold Rd.rested
    by_cases hle:p.full≤h+d * p.rise
    · rw[decide_eq_true hle,Int.min_eq_left hle]
    · rw[decide_eq_false hle,Int.min_eq_right (by omega)]
  simp only[e2,Option.map_some]
theorem knowsK:Knows cfgK where
  calm:=rfl
  wh:=fun _=>rfl
  within:=has_of rfl rfl (by kernel_rfl) rfl
  isLoad:=has_of rfl rfl (by kernel_rfl) rfl
  always:=has_of rfl rfl (by kernel_rfl) rfl
  isPart:=has_of rfl rfl (by kernel_rfl) rfl
  isEvent:=has_of rfl rfl (by kernel_rfl) rfl
  every:=has_of rfl rfl (by kernel_rfl) rfl
  isSpan:=has_of rfl rfl (by kernel_rfl) rfl
  must:=has_of rfl rfl (by kernel_rfl) rfl
  sunk:=has_of rfl rfl (by kernel_rfl) rfl
  rested:=has_of rfl rfl (by kernel_rfl) rfl
  look:=has_of rfl rfl (by kernel_rfl) rfl
  pass:=has_of rfl rfl (by kernel_rfl) rfl
  rest:=rest_k
  height:=has_of rfl rfl (by kernel_rfl) rfl
  first:=has_of rfl rfl (by kernel_rfl) rfl
  parts:=has_of rfl rfl (by kernel_rfl) rfl
  parts1:=has_of rfl rfl (by kernel_rfl) rfl
  ways:=has_of rfl rfl (by kernel_rfl) rfl
  all:=has_of rfl rfl (by kernel_rfl) rfl
  all1:=has_of rfl rfl (by kernel_rfl) rfl
  all11:=has_of rfl rfl (by kernel_rfl) rfl
  told:=has_of rfl rfl (by kernel_rfl) rfl
  told1:=has_of rfl rfl (by kernel_rfl) rfl
  can:=has_of rfl rfl (by kernel_rfl) rfl
  known:=has_of rfl rfl (by kernel_rfl) rfl
  joined:=has_of rfl rfl (by kernel_rfl) rfl
  span:=has_of rfl rfl (by kernel_rfl) rfl
  heights:=has_of rfl rfl (by kernel_rfl) rfl
  heights1:=has_of rfl rfl (by kernel_rfl) rfl
  left:=has_of rfl rfl (by kernel_rfl) rfl
  index:=has_of rfl rfl (by kernel_rfl) rfl
  cont:=has_of rfl rfl (by kernel_rfl) rfl
  sure:=has_of rfl rfl (by kernel_rfl) rfl
  sure1:=has_of rfl rfl (by kernel_rfl) rfl
  may:=has_of rfl rfl (by kernel_rfl) rfl
  may1:=has_of rfl rfl (by kernel_rfl) rfl
  open_ := has_of rfl rfl (by kernel_rfl) rfl
  count:=has_of rfl rfl (by kernel_rfl) rfl
  count1:=has_of rfl rfl (by kernel_rfl) rfl
  firstN:=has_of rfl rfl (by kernel_rfl) rfl
  height2:=has_of rfl rfl (by kernel_rfl) rfl
  sinks2:=has_of rfl rfl (by kernel_rfl) rfl
  sinks3:=has_of rfl rfl (by kernel_rfl) rfl
  bears2:=has_of rfl rfl (by kernel_rfl) rfl
  rest2:=has_of rfl rfl (by kernel_rfl) rfl
  rest3:=has_of rfl rfl (by kernel_rfl) rfl
  most2:=has_of rfl rfl (by kernel_rfl) rfl
  eHeight:=has_of rfl rfl (by kernel_rfl) rfl
  eSinks:=has_of rfl rfl (by kernel_rfl) rfl
  eBears:=has_of rfl rfl (by kernel_rfl) rfl
  eMost:=has_of rfl rfl (by kernel_rfl) rfl
  eRest:=has_of rfl rfl (by kernel_rfl) rfl
  eBelow:=has_of rfl rfl (by kernel_rfl) rfl
  eWeak:=has_of rfl rfl (by kernel_rfl) rfl
  dfHeight:=rfl
  dfSinks:=rfl
  dfBears:=rfl
  dfMost:=rfl
  dfRest:=rfl
  dfBelow:=rfl
  dfWeak:=rfl
theorem knowsM:KnowsM cfgK where
  calm:=rfl
  swap:=has_of rfl rfl (by kernel_rfl) rfl
  rot:=has_of rfl rfl (by kernel_rfl) rfl
  sym:=has_of rfl rfl (by kernel_rfl) rfl
  ins:=has_of rfl rfl (by kernel_rfl) rfl
  stable:=has_of rfl rfl (by kernel_rfl) rfl
  sort:=has_of rfl rfl (by kernel_rfl) rfl
  o64:=has_of rfl rfl (by kernel_rfl) rfl
  ones:=has_of rfl rfl (by kernel_rfl) rfl
  cmp:=has_of rfl rfl (by kernel_rfl) rfl
theorem knowsC:KnowsC cfgK clashM where
  k:=knowsK
  sort:=sortM knowsM
  cl3:=has_of rfl rfl (by kernel_rfl) rfl
  are:=has_of rfl rfl (by kernel_rfl) rfl
  val:=has_of rfl rfl (by kernel_rfl) rfl
  val1:=has_of rfl rfl (by kernel_rfl) rfl
  firstU:=has_of rfl rfl (by kernel_rfl) rfl
  eClash:=has_of rfl rfl (by kernel_rfl) rfl
  df:=rfl
def intsOf:List AV→Option (List Int)
  |[]=>some []
  |.int .i64 n::l=>if -9223372036854775808≤n∧n≤9223372036854775807 then (intsOf l).map (n::·) else none
  |_=>none
theorem zko:∀ {l:List AV} {ns:List Int},intsOf l=some ns→l=ns.map (AV.int .i64)∧∀ n∈ns,-9223372036854775808≤n∧n≤9223372036854775807
  |[],ns,h=>by cases h;exact ⟨rfl,by simp⟩
  |v::l,ns,h=>by
    unfold intsOf at h
    split at h
    · rename_i e;cases e
    · rename_i n l' e
      obtain ⟨rfl,rfl⟩:=List.cons.inj e
      split at h
      · rename_i hb
        obtain ⟨ms,h1,rfl⟩:=Option.map_eq_some_iff.1 h
        obtain ⟨h2,h3⟩:=zko h1
        refine ⟨by rw[List.map_cons,← h2],fun m hm=>?_⟩
        rcases List.mem_cons.1 hm with rfl|hm
        · exact hb
        · exact h3 m hm
      · cases h
    · cases h
def gRd (spec:Rd.Road→List Int→Option AV)(args:List AV)(H:List AB):Option AV:=
  match args with
  |v::rest=>(roadOf H v).bind fun r=>(intsOf rest).bind fun ns=>spec r ns
  |[]=>none
theorem rd_arg {W:World}{L:Nat→Prop}{μ:Mu}{H:List AB}(hs:Sim Tryz.prog W L μ H){v:AV}{x:Value}{r:Rd.Road}(hc:roadOf H v=some r)(hv:VR W L μ v x):VR W (fun _=>False) nomu (.agg (roadCs r)) x:=by
  obtain ⟨pv,ev,rfl,h1,h2,_,_⟩:=zhu hc
  cases hv with
  |dead h=>simp[headRef] at h
  |@agg _ _ rs hl hr=>
    match rs,hl with
    |[r0,r1],_=>
      have a0:=hr 0 _ _ rfl rfl
      have a1:=hr 1 _ _ rfl rfl
      refine .agg rfl fun i x r hx hr'=>?_
      match i,hx,hr' with
      |0,hx,hr'=>
        cases hx;cases hr'
        refine zkl hs (by decide) a0 (fun i e he=>?_) (fun e he y hy=>?_) (by rw[zob];exact h1)
        · rw[List.getElem?_map] at he
          obtain ⟨p,_,rfl⟩:=Option.map_eq_some_iff.1 he
          rfl
        · obtain ⟨p,_,rfl⟩:=List.mem_map.1 he
          simp only[ptE,AV.cells,List.mem_cons,List.not_mem_nil,or_false] at hy
          rcases hy with rfl|rfl|rfl|rfl|rfl|rfl|rfl<;>exact ⟨_,_,rfl⟩
      |1,hx,hr'=>
        cases hx;cases hr'
        refine zkl hs (by decide) a1 (fun i e he=>?_) (fun e he y hy=>?_) (by rw[zoc];exact h2)
        · rw[List.getElem?_map] at he
          obtain ⟨p,_,rfl⟩:=Option.map_eq_some_iff.1 he
          rfl
        · obtain ⟨p,_,rfl⟩:=List.mem_map.1 he
          simp only[evE,AV.cells,List.mem_cons,List.not_mem_nil,or_false] at hy
          rcases hy with rfl|rfl|rfl|rfl|rfl|rfl|rfl<;>exact ⟨_,_,rfl⟩
      |i+2,hx,hr'=>simp[roadCs] at hx
theorem grd_ok {spec : Rd.Road → List Int → Option AV} {f : Nat} (hk : ∃ F, Tryz.prog.funcs[f]? = some F ∧ (F.name == "runtime.NumGoroutine")=false∧∃ af:AFunc,compFn Tryz.prog F=some af.strip)
    (hf:∀ (r:Rd.Road) (ns:List Int) (v:AV),r.parts.length≤40→r.events.length≤50→(∀ n∈ns,-9223372036854775808≤n∧n≤9223372036854775807)→spec r ns=some v→Bare v∧∃ C:Cfg,TblOk Tryz.prog C∧(∀ W L,Globs C W L)∧∃ m H' tc,Ev.call C m (.fn (.func f) [] []) (.agg (roadCs r)::ns.map (AV.int .i64)) []=some (.ret v,H',tc)):
    (∃ F, Tryz.prog.funcs[f]? = some F ∧ (F.name == "runtime.NumGoroutine")=false∧F.body.isNone=false)∧∀ (args:List AV) (H:List AB) (v:AV) (rargs:Array Value) (W:World) (L:Nat→Prop) (μ:Mu),gRd spec args H=some v→VL W L μ args rargs.toList→Sim Tryz.prog W L μ H →
      CallsIn Fence.wide 0 Tryz.prog f rargs W fun e W'=>(∃ w,e=.returned w∧VR W' L nomu v w)∧Below W.heap.size W W':=by
  refine ⟨known f hk,fun args H v rargs W L μ h hv hs=>?_⟩
  unfold gRd at h
  split at h
  · rename_i u rest
    obtain ⟨r,h1,h2⟩:=Option.bind_eq_some_iff.1 h
    obtain ⟨ns,h3,h4⟩:=Option.bind_eq_some_iff.1 h2
    obtain ⟨rfl,hns⟩:=zko h3
    obtain ⟨_,_,_,_,_,b1,b2⟩:=zhu h1
    obtain ⟨hb,C,hT,hG,m,H',tc,hcall⟩:=hf r ns v b1 b2 hns h4
    refine (zjm hT hcall hb (hG _ _) ⟨hv.1,fun i x r hx hr=>?_⟩).mono fun e W' ⟨⟨w,h1,h2⟩,h3⟩=>⟨⟨w,h1,h2 _ _ _⟩,h3⟩
    match i,hx with
    |0,hx=>cases hx;exact rd_arg hs h1 (hv.2 0 _ r rfl hr)
    |i+1,hx=>
      rw[List.getElem?_cons_succ,List.getElem?_map] at hx
      obtain ⟨n,h5,rfl⟩:=Option.map_eq_some_iff.1 hx
      exact zek (.inl ⟨_,_,rfl⟩) (hv.2 (i+1) (.int .i64 n) r (by rw[List.getElem?_cons_succ,List.getElem?_map,h5];rfl) hr)
  · cases h
def sHeight (r:Rd.Road):List Int→Option AV|[n,v]=>some (spanRV r (Rd.isPart r n&&Rd.isEvent r v) (Rd.heightsR r n.toNat (v.toNat+1)))|_=>none
def sSinks (r:Rd.Road):List Int→Option AV|[n,l]=>some (spanRV r (Rd.isPart r n&&Rd.isLoad l) (Rd.sinksR r n.toNat l))|_=>none
def sBears (r:Rd.Road):List Int→Option AV|[l]=>some (numRV r (Rd.isLoad l) (Rd.bearsR r l))|_=>none
def sMost (r:Rd.Road):List Int→Option AV|[]=>some (findRV r true (Rd.mostR r))|_=>none
def sRest (r:Rd.Road):List Int→Option AV|[l]=>some (findRV r (Rd.isLoad l) (Rd.restR r l))|_=>none
def sBelow (r:Rd.Road):List Int→Option AV|[]=>some (belowRV r)|_=>none
def sWeak (r:Rd.Road):List Int→Option AV|[]=>some (numRV r true (Rd.weakR r))|_=>none
def sClash (r:Rd.Road):List Int→Option AV|[]=>if okClash clashM r=true then some (clashRV r) else none|_=>none
noncomputable def exthL0 (f:Nat):Option (List AV→List AB→Option AV):=
  if f=7 then some (gRd sHeight) else if f=9 then some (gRd sSinks) else if f=11 then some (gRd sBears) else if f=16 then some (gRd sMost) else if f=18 then some (gRd sRest) else if f=13 then some (gRd sBelow) else if f=20 then some (gRd sWeak) else if f=22 then some (gRd sClash) else none
theorem zld (s:Clm.Sp)(e:Int):Bare (.tup [spA s,.int .i64 e]):=by
  intro x hx
  simp only[List.mem_cons,List.not_mem_nil,or_false] at hx
  rcases hx with rfl|rfl
  · refine .inr (.inr ⟨_,rfl,fun y hy=>?_⟩)
    simp only[List.mem_cons,List.not_mem_nil,or_false] at hy
    rcases hy with rfl|rfl<;>exact ⟨_,_,rfl⟩
  · exact .inl ⟨_,_,rfl⟩
theorem zef (a e:Int):Bare (.tup [.int .i64 a,.int .i64 e]):=by
  intro x hx
  simp only[List.mem_cons,List.not_mem_nil,or_false] at hx
  rcases hx with rfl|rfl<;>exact .inl ⟨_,_,rfl⟩
theorem zrk (a b e:Int):Bare (.tup [.int .i64 a,.int .i64 b,.int .i64 e]):=by
  intro x hx
  simp only[List.mem_cons,List.not_mem_nil,or_false] at hx
  rcases hx with rfl|rfl|rfl<;>exact .inl ⟨_,_,rfl⟩
theorem zrl (r:Rd.Road):Bare (clashRV r):=by
  unfold clashRV
  split
  · exact zef _ _
  · split<;>exact zef _ _
theorem zny (f : Nat) (g : List AV → List AB → Option AV) (h : exthL0 f = some g) : (∃ F, Tryz.prog.funcs[f]? = some F ∧ (F.name == "runtime.NumGoroutine")=false∧F.body.isNone=false)∧∀ (args:List AV) (H:List AB) (v:AV) (rargs:Array Value) (W:World) (L:Nat→Prop) (μ:Mu),g args H=some v→VL W L μ args rargs.toList→Sim Tryz.prog W L μ H→Globs cfgK W L →
      CallsIn Fence.wide 0 Tryz.prog f rargs W fun e W'=>(∃ w,e=.returned w∧VR W' L nomu v w)∧Below W.heap.size W W':=by
  have kn : ∀ {f : Nat} {af : AFunc}, (∃ F, Tryz.prog.funcs[f]? = some F ∧ (F.name == "runtime.NumGoroutine")=false∧compFn Tryz.prog F=some af.strip)→∃ F,Tryz.prog.funcs[f]?=some F∧(F.name== "runtime.NumGoroutine")=false∧∃ af:AFunc,compFn Tryz.prog F=some af.strip:=fun ⟨F,h1,h2,h3⟩=>⟨F,h1,h2,_,h3⟩
  unfold exthL0 at h
  split at h
  · rename_i hf;subst hf;cases h
    obtain ⟨k1,k2⟩:=grd_ok (spec:=sHeight) (kn is7) fun r ns v b1 b2 hr hs=>by
      unfold sHeight at hs
      split at hs<;>cases hs
      exact ⟨zld _ _,cfgK,tblK,fun _ _=>zbh _ _ _,0+r.events.length+18,_,_,heightE knowsK ⟨by omega,by omega⟩ 0 _ _ (hr _ (by simp))⟩
    exact ⟨k1,fun args H v rargs W L μ a b c _=>k2 args H v rargs W L μ a b c⟩
  split at h
  · rename_i hf;subst hf;cases h
    obtain ⟨k1,k2⟩:=grd_ok (spec:=sSinks) (kn is9) fun r ns v b1 b2 hr hs=>by
      unfold sSinks at hs
      split at hs<;>cases hs
      exact ⟨zld _ _,cfgK,tblK,fun _ _=>zbh _ _ _,0+r.events.length+18,_,_,sinksE knowsK ⟨by omega,by omega⟩ 0 _ _⟩
    exact ⟨k1,fun args H v rargs W L μ a b c _=>k2 args H v rargs W L μ a b c⟩
  split at h
  · rename_i hf;subst hf;cases h
    obtain ⟨k1,k2⟩:=grd_ok (spec:=sBears) (kn is11) fun r ns v b1 b2 hr hs=>by
      unfold sBears at hs
      split at hs<;>cases hs
      exact ⟨zef _ _,cfgK,tblK,fun _ _=>zbh _ _ _,0+r.events.length+18,_,_,bearsE knowsK ⟨by omega,by omega⟩ 0 _⟩
    exact ⟨k1,fun args H v rargs W L μ a b c _=>k2 args H v rargs W L μ a b c⟩
  split at h
  · rename_i hf;subst hf;cases h
    obtain ⟨k1,k2⟩:=grd_ok (spec:=sMost) (kn is16) fun r ns v b1 b2 hr hs=>by
      unfold sMost at hs
      split at hs<;>cases hs
      exact ⟨zef _ _,cfgK,tblK,fun _ _=>zbh _ _ _,0+r.events.length+18,_,_,mostE knowsK ⟨by omega,by omega⟩ 0⟩
    exact ⟨k1,fun args H v rargs W L μ a b c _=>k2 args H v rargs W L μ a b c⟩
  split at h
  · rename_i hf;subst hf;cases h
    obtain ⟨k1,k2⟩:=grd_ok (spec:=sRest) (kn is18) fun r ns v b1 b2 hr hs=>by
      unfold sRest at hs
      split at hs<;>cases hs
      exact ⟨zef _ _,cfgK,tblK,fun _ _=>zbh _ _ _,0+r.events.length+18,_,_,restE knowsK ⟨by omega,by omega⟩ 0 _⟩
    exact ⟨k1,fun args H v rargs W L μ a b c _=>k2 args H v rargs W L μ a b c⟩
  split at h
  · rename_i hf;subst hf;cases h
    obtain ⟨k1,k2⟩:=grd_ok (spec:=sBelow) (kn is13) fun r ns v b1 b2 hr hs=>by
      unfold sBelow at hs
      split at hs<;>cases hs
      exact ⟨zrk _ _ _,cfgK,tblK,fun _ _=>zbh _ _ _,0+r.events.length+18,_,_,belowE knowsK ⟨by omega,by omega⟩ 0⟩
    exact ⟨k1,fun args H v rargs W L μ a b c _=>k2 args H v rargs W L μ a b c⟩
  split at h
  · rename_i hf;subst hf;cases h
    obtain ⟨k1,k2⟩:=grd_ok (spec:=sWeak) (kn is20) fun r ns v b1 b2 hr hs=>by
      unfold sWeak at hs
      split at hs<;>cases hs
      exact ⟨zef _ _,cfgK,tblK,fun _ _=>zbh _ _ _,0+r.events.length+18,_,_,weakE knowsK ⟨by omega,by omega⟩ 0⟩
    exact ⟨k1,fun args H v rargs W L μ a b c _=>k2 args H v rargs W L μ a b c⟩
  split at h
  · rename_i hf;subst hf;cases h
    obtain ⟨k1,k2⟩:=grd_ok (spec:=sClash) (kn is22) fun r ns v b1 b2 hr hs=>by
      unfold sClash at hs
      split at hs
      rotate_left
      · cases hs
      split at hs
      rotate_left
      · cases hs
      rename_i hok
      cases hs
      exact ⟨zrl r,cfgK,tblK,fun _ _=>zbh _ _ _,0+r.events.length+18,_,_,clashE knowsC ⟨by omega,by omega⟩ hok 0⟩
    exact ⟨k1,fun args H v rargs W L μ a b c _=>k2 args H v rargs W L μ a b c⟩
  · cases h
end Ro
namespace Ro
open K
set_option maxRecDepth 1000000
noncomputable def cfgL0:Cfg where
  fns:=FT.find fnTree
  glob:=fun _=>none
  dfk:=fun _=>none
  ext:=fun _=>none
  exth:=exthL0
  calm:=true
  whole:=fun _=>true
theorem tblL0 : TblOk Tryz.prog cfgL0 := ⟨fun f fn h => FT.find_all zrw h, fun _ _ h => (by cases h), fun f g h => by
  obtain ⟨k1,k2⟩:=zny f g h
  exact ⟨k1,fun args H v rargs W L μ a b c d=>k2 args H v rargs W L μ a b c (zbh _ _ _)⟩,fun _ _ _ h=>(by cases h)⟩
noncomputable def isTrue (o:Option (CRes × List AB × List Nat)):Bool:=match o with
  |some (.ret (.bool b),_,_)=>b
  |_=>false
theorem zms:isTrue (Ev.call cfgL0 5 (.fn (.func 6) [] []) [] [])=true:=by kernel_rfl
theorem zrp (W:World):CallsIn Fence.wide 0 Tryz.prog 6 #[] W fun e W'=>e=.returned (.bool true)∧Below W.heap.size W W':=by
  have h:=zms
  generalize hr:Ev.call cfgL0 5 (.fn (.func 6) [] []) [] []=o at h
  unfold isTrue at h
  split at h
  · rename_i b H' tc
    subst h
    exact zwr tblL0 hr W (zbh _ _ _)
  · cases h
end Ro
end Ev
end Go.Proofs.YtlcjlcllbgjplaaGreat
namespace Go.Proofs.YtlcjlcllbgjplaaGreat
open Go
namespace Rd
open Clm (Sp Hull spanL mem_span setOf)
def restE (n:Int):Evt:=⟨1,⟨0,0⟩,n,0,⟨0,0⟩⟩
end Rd
namespace Ev
namespace Ro
open K
attribute [local simp] ev1 wantG spineK spine float xnew xval xeff zab zae zau zah zai addFl cellsOf pickC alive slLen slFt binI maxA maxK minA minK aeqK aeqS AV.cells spA zad fillA setAt bitsI nat_nn zav AV.plain apart
set_option maxRecDepth 100000
set_option maxHeartbeats 4000000
theorem zya (C:Cfg)(call:CallF)(r:Rd.Road)(H:List AB):Does (ev C call H.length none af5.body { tm:=tmA af5.ntmps (zipI 0 [.agg (roadCs r)] []),df:=[],hp:=H,tc:=[] })
    (Ends C H.length af5.res fun v _hp tc=>v=.bool (decide (max r.parts.length r.events.length > 40))∧tc=[]):=by
  have e:decide ((40:Int)<max (r.parts.length:Int) (r.events.length:Int))=decide (max r.parts.length r.events.length > 40):=by congr 1;simp;omega
  rw[← e]
  unfold af5 Zq Zm Zl Zo Zt Zn
  simp only[zipI,roadCs]
  refine gA ?_
  exact zac (v:=.bool (decide ((40:Int)<max (r.parts.length:Int) (r.events.length:Int)))) (.inl rfl) rfl (by simp) endvP ⟨rfl,rfl⟩
end Ro
namespace Ro
open K
set_option maxRecDepth 100000
set_option maxHeartbeats 4000000
def i64n (n:Int):Prop:=-9223372036854775808≤n∧n≤9223372036854775807
structure LApi (call:CallF):Prop where
  height:∀ {H v r},roadOf H v=some r→∀ n m,i64n n→i64n m→call (.fn (.func 7) [] []) [v,.int .i64 n,.int .i64 m] H=some (.ret (spanRV r (Rd.isPart r n&&Rd.isEvent r m) (Rd.heightsR r n.toNat (m.toNat+1))),H,[])
  sinks:∀ {H v r},roadOf H v=some r→∀ n m,i64n n→i64n m→call (.fn (.func 9) [] []) [v,.int .i64 n,.int .i64 m] H=some (.ret (spanRV r (Rd.isPart r n&&Rd.isLoad m) (Rd.sinksR r n.toNat m)),H,[])
  bears:∀ {H v r},roadOf H v=some r→∀ n,i64n n→call (.fn (.func 11) [] []) [v,.int .i64 n] H=some (.ret (numRV r (Rd.isLoad n) (Rd.bearsR r n)),H,[])
  most:∀ {H v r},roadOf H v=some r→call (.fn (.func 16) [] []) [v] H=some (.ret (findRV r true (Rd.mostR r)),H,[])
  rest:∀ {H v r},roadOf H v=some r→∀ n,i64n n→call (.fn (.func 18) [] []) [v,.int .i64 n] H=some (.ret (findRV r (Rd.isLoad n) (Rd.restR r n)),H,[])
  below:∀ {H v r},roadOf H v=some r→call (.fn (.func 13) [] []) [v] H=some (.ret (belowRV r),H,[])
  weak:∀ {H v r},roadOf H v=some r→call (.fn (.func 20) [] []) [v] H=some (.ret (numRV r true (Rd.weakR r)),H,[])
  clash:∀ {H v r},roadOf H v=some r→okClash clashM r=true→call (.fn (.func 22) [] []) [v] H=some (.ret (clashRV r),H,[])
  valid:∀ {H v r},roadOf H v=some r→call (.fn (.func 62) [] []) [v] H=some (.ret (.bool (Rd.valid r)),H,[])
  alive:∀ {H},call (.fn (.func 6) [] []) [] H=some (.ret (.bool true),H,[])
  long:∀ {H} (r:Rd.Road),call (.fn (.func 5) [] []) [.agg [.vs 7 (r.parts.map ptE),.vs 7 (r.events.map evE)]] H=some (.ret (.bool (decide (max r.parts.length r.events.length > 40))),H,[])
end Ro
end Ev
end Go.Proofs.YtlcjlcllbgjplaaGreat
namespace Go.Proofs.YtlcjlcllbgjplaaGreat
open Go Go.Proofs Go.RowKit
namespace Ev
namespace Ro
open K
set_option maxRecDepth 100000
set_option maxHeartbeats 4000000
structure KnowsR (C:Cfg):Prop where
  calm:C.calm=true
  rin:Has C 93 af93
  rspan:Has C 105 af105
  rpart:Has C 37 af37
  revent:Has C 106 af106
  rroad:Has C 62 af62
theorem knowsR:KnowsR cfgK where
  calm:=rfl
  rin:=has_of rfl rfl (by kernel_rfl) rfl
  rspan:=has_of rfl rfl (by kernel_rfl) rfl
  rpart:=has_of rfl rfl (by kernel_rfl) rfl
  revent:=has_of rfl rfl (by kernel_rfl) rfl
  rroad:=has_of rfl rfl (by kernel_rfl) rfl
theorem validL (r:Rd.Road)(hp:r.parts.length≤40)(he:r.events.length≤50):Ev.call cfgK 4 (.fn (.func 62) [] []) [.agg (roadCs r)] []=some (.ret (.bool (Rd.valid r)),[],[]):=by
  have k:=knowsR
  have h1:∀ n,RinC (Ev.call cfgK (n+1)):=fun n H a b c=>zaj k.calm k.rin (le' rfl) rfl (zth cfgK _ H a b c)
  have h2:∀ n,RspanC (Ev.call cfgK (n+1)):=fun n H s a b w q1 q2=>zaj k.calm k.rspan (le' rfl) rfl (ztb cfgK _ H s a b w q1 q2)
  have h3:∀ n,RpartC (Ev.call cfgK (n+2)) r:=fun n H m=>zaj k.calm k.rpart (le' rfl) rfl (zjt cfgK _ (h1 n) r (by omega) H m)
  have h4:∀ n,ReventC (Ev.call cfgK (n+3)) r:=fun n H v=>zaj k.calm k.revent (le' rfl) rfl (zpg cfgK _ r (h1 (n+1)) (h3 n) (h2 (n+1)) H v)
  exact zaj k.calm k.rroad (le' rfl) rfl (ztd cfgK k.calm _ r ⟨by omega,by omega⟩ (h1 2) (h2 2) (h4 0) [])
def sValid (r:Rd.Road):List Int→Option AV|[]=>some (.bool (Rd.valid r))|_=>none
def gAlive (args:List AV)(_:List AB):Option AV:=match args with|[]=>some (.bool true)|_=>none
noncomputable def exthL (f:Nat):Option (List AV→List AB→Option AV):=if f=62 then some (gRd sValid) else if f=6 then some gAlive else exthL0 f
noncomputable def cfgL (t:FT):Cfg where
  fns:=FT.find t
  glob:=fun _=>none
  dfk:=fun _=>none
  ext:=fun _=>none
  exth:=exthL
  calm:=true
  whole:=fun _=>true
def IsTree (t : FT) : Prop := FT.All (fun k af => ∃ F, Tryz.prog.funcs[k]? = some F ∧ (F.name == "runtime.NumGoroutine")=false∧compFn Tryz.prog F=some af.strip) t
theorem tblL {t:FT}(ht:IsTree t):TblOk Tryz.prog (cfgL t):=by
  refine ⟨fun f fn h=>FT.find_all ht h,fun _ _ h=>(by cases h),fun f g h=>?_,fun _ _ _ h=>(by cases h)⟩
  have h':exthL f=some g:=h
  unfold exthL at h'
  split at h'
  · rename_i hf;subst hf;cases h'
    obtain ⟨F,f1,f2,f3⟩:=is62
    obtain ⟨k1,k2⟩:=grd_ok (spec:=sValid) ⟨F,f1,f2,_,f3⟩ fun r ns v b1 b2 hr hs=>by
      unfold sValid at hs
      split at hs<;>cases hs
      exact ⟨trivial,cfgK,tblK,fun _ _=>zbh _ _ _,4,_,_,validL r b1 b2⟩
    exact ⟨k1,fun args H v rargs W L μ a b c _=>k2 args H v rargs W L μ a b c⟩
  split at h'
  · rename_i hf;subst hf;cases h'
    obtain ⟨F,f1,f2,f3⟩:=is6
    refine ⟨known _ ⟨F,f1,f2,_,f3⟩,fun args H v rargs W L μ hv hr hs hG=>?_⟩
    unfold gAlive at hv
    split at hv
    · cases hv
      have:rargs=#[]:=Array.ext' (List.eq_nil_of_length_eq_zero (by have:=hr.1;simpa using this.symm))
      subst this
      exact (zrp W).mono fun e W' ⟨h1,h2⟩=>⟨⟨_,h1,.bool⟩,h2⟩
    · cases hv
  · obtain ⟨k1,k2⟩:=zny f g h'
    exact ⟨k1,fun args H v rargs W L μ a b c d=>k2 args H v rargs W L μ a b c (zbh _ _ _)⟩
theorem zcb {t:FT}{f:Nat}{spec:Rd.Road→List Int→Option AV}(h:exthL f=some (gRd spec))(n:Nat){H:List AB}{v:AV}{c:Rd.Road}(hc:roadOf H v=some c)(ns:List Int)(hn:∀ n∈ns,i64n n){w:AV}(hs:spec c ns=some w):Ev.call (cfgL t) (n+1) (.fn (.func f) [] []) (v::ns.map (AV.int .i64)) H=some (.ret w,H,[]):=by
  show enter (cfgL t) (Ev.call (cfgL t) n) f ([]++(v::ns.map (AV.int .i64))++[]) H=_
  unfold enter
  have h1:(cfgL t).ext f=none:=rfl
  have h2:(cfgL t).exth f=some (gRd spec):=h
  rw[h1,h2]
  have hi:∀ ns:List Int,(∀ n∈ns,i64n n)→intsOf (ns.map (AV.int .i64))=some ns:=by
    intro ns
    induction ns with
    |nil=>intro _;rfl
    |cons a l ih=>
      intro h
      have h1:=h a (by simp)
      have h2:=ih fun n hn=>h n (by simp[hn])
      unfold i64n at h1
      simp[intsOf,h2,h1]
  have h3:gRd spec ([]++(v::ns.map (AV.int .i64))++[]) H=some w:=by
    simp[gRd,hc,hi ns hn,hs]
  simp only[h3,Option.map_some]
theorem lapi {t:FT}(hl:Has (cfgL t) 5 af5)(n:Nat):LApi (Ev.call (cfgL t) (n+1)) where
  height hc a b ha hb:=zcb (spec:=sHeight) rfl n hc [a,b] (by simp[ha,hb]) rfl
  sinks hc a b ha hb:=zcb (spec:=sSinks) rfl n hc [a,b] (by simp[ha,hb]) rfl
  bears hc a ha:=zcb (spec:=sBears) rfl n hc [a] (by simp[ha]) rfl
  most hc:=zcb (spec:=sMost) rfl n hc [] (by simp) rfl
  rest hc a ha:=zcb (spec:=sRest) rfl n hc [a] (by simp[ha]) rfl
  below hc:=zcb (spec:=sBelow) rfl n hc [] (by simp) rfl
  weak hc:=zcb (spec:=sWeak) rfl n hc [] (by simp) rfl
  clash hc hok:=zcb (spec:=sClash) rfl n hc [] (by simp) (if_pos hok)
  valid hc:=zcb (spec:=sValid) rfl n hc [] (by simp) rfl
  alive {H}:=by
    show enter (cfgL t) (Ev.call (cfgL t) n) 6 ([]++[]++[]) H=some (.ret (.bool true),H,[])
    unfold enter
    have h1:(cfgL t).ext 6=none:=rfl
    have h2:(cfgL t).exth 6=some gAlive:=rfl
    rw[h1,h2];rfl
  long {H} r:=zaj rfl hl (le' rfl) rfl (zya (cfgL t) _ r H)
end Ro
end Ev
end Go.Proofs.YtlcjlcllbgjplaaGreat
namespace Go.Proofs.YtlcjlcllbgjplaaGreat
open Go Go.Proofs Go.RowKit Go.ChangeShapes Go.WideShapes Go.Deep
namespace Ev
namespace Ro
open K
section
variable {H:Type} {enc:TypeId × Value→H} {w:World} {base:Nat} {spare:Nat→Bool} {held:Bool} {fuel:Nat} {cs:List Value}
theorem list2 {cs:List Value}(h:cs.length=2):∃ a b,cs=[a,b]:=by
  match cs,h with|[a,b],_=>exact ⟨a,b,rfl⟩
theorem list7 {cs:List Value}(h:cs.length=7):∃ a b c d e f g,cs=[a,b,c,d,e,f,g]:=by
  match cs,h with|[a,b,c,d,e,f,g],_=>exact ⟨a,b,c,d,e,f,g,rfl⟩
theorem zhj:Tryz.prog.cellsOf 3=1:=by kernel_rfl
theorem zfr:Tryz.prog.cellsOf 29=2:=by kernel_rfl
theorem zij:Tryz.prog.cellsOf 109=7:=by kernel_rfl
theorem zhk:Tryz.prog.cellsOf 85=7:=by kernel_rfl
theorem zrd:Tryz.prog.cellsOf 25=2:=by kernel_rfl
theorem zmn:Tryz.prog.cellsOf 22=1:=by kernel_rfl
theorem zla:Tryz.prog.cellsOf 23=1:=by kernel_rfl
theorem trod_i (h:∃ y,DataW.trod enc Tryz.prog w base spare held fuel 3 cs=some y):∃ n,cs=[.int .i64 n]:=by
  obtain ⟨y,h⟩:=h
  obtain ⟨n,h1,_,h2⟩:=DataW.trod_int Tryz.underlying3 h
  exact ⟨n,h1⟩
theorem zdp (h:∃ y,DataW.trod enc Tryz.prog w base spare held fuel 29 cs=some y):∃ a b,cs=[.int .i64 a,.int .i64 b]:=by
  obtain ⟨y,h⟩:=h
  obtain ⟨xs,n,rfl,_,hl,hx,hf⟩:=DataW.trod_struct Tryz.underlying29 h
  rw[zfr] at hl
  have hx:xs.length=2:=hx
  obtain ⟨c0,c1,rfl⟩:=list2 hl
  clear hl
  obtain ⟨a,ha⟩:=trod_i ⟨_,(hf 0 _ rfl).trans (List.getElem?_eq_getElem (by omega))⟩
  obtain ⟨b,hb⟩:=trod_i ⟨_,(hf 1 _ rfl).trans (List.getElem?_eq_getElem (by omega))⟩
  simp[zhj] at ha hb
  exact ⟨a,b,by rw[ha,hb]⟩
def ptR (p:Rd.Pt):List Value:=[.int .i64 p.height.lo,.int .i64 p.height.hi,.int .i64 p.stiff.lo,.int .i64 p.stiff.hi,.int .i64 p.rise.lo,.int .i64 p.rise.hi,.int .i64 p.full]
def evR (v:Rd.Evt):List Value:=[.int .i64 v.kind,.int .i64 v.load.lo,.int .i64 v.load.hi,.int .i64 v.days,.int .i64 v.part,.int .i64 v.shows.lo,.int .i64 v.shows.hi]
theorem zrv (h:∃ y,DataW.trod enc Tryz.prog w base spare held fuel 109 cs=some y):∃ p,cs=ptR p:=by
  obtain ⟨y,h⟩:=h
  obtain ⟨xs,n,rfl,_,hl,hx,hf⟩:=DataW.trod_struct Tryz.underlying109 h
  rw[zij] at hl
  have hx:xs.length=4:=hx
  obtain ⟨c0,c1,c2,c3,c4,c5,c6,rfl⟩:=list7 hl
  clear hl
  obtain ⟨a,b,hab⟩:=zdp ⟨_,(hf 0 _ rfl).trans (List.getElem?_eq_getElem (by omega))⟩
  obtain ⟨d,e,hde⟩:=zdp ⟨_,(hf 1 _ rfl).trans (List.getElem?_eq_getElem (by omega))⟩
  obtain ⟨f,g,hfg⟩:=zdp ⟨_,(hf 2 _ rfl).trans (List.getElem?_eq_getElem (by omega))⟩
  obtain ⟨i,hi⟩:=trod_i ⟨_,(hf 3 _ rfl).trans (List.getElem?_eq_getElem (by omega))⟩
  simp[zfr,zhj] at hab hde hfg hi
  exact ⟨⟨⟨a,b⟩,⟨d,e⟩,⟨f,g⟩,i⟩,by rw[hab.1,hab.2,hde.1,hde.2,hfg.1,hfg.2,hi];rfl⟩
theorem zop (h:∃ y,DataW.trod enc Tryz.prog w base spare held fuel 85 cs=some y):∃ p,cs=evR p:=by
  obtain ⟨y,h⟩:=h
  obtain ⟨xs,n,rfl,_,hl,hx,hf⟩:=DataW.trod_struct Tryz.underlying85 h
  rw[zhk] at hl
  have hx:xs.length=5:=hx
  obtain ⟨c0,c1,c2,c3,c4,c5,c6,rfl⟩:=list7 hl
  clear hl
  obtain ⟨a,ha⟩:=trod_i ⟨_,(hf 0 _ rfl).trans (List.getElem?_eq_getElem (by omega))⟩
  obtain ⟨d,e,hde⟩:=zdp ⟨_,(hf 1 _ rfl).trans (List.getElem?_eq_getElem (by omega))⟩
  obtain ⟨b,hb⟩:=trod_i ⟨_,(hf 2 _ rfl).trans (List.getElem?_eq_getElem (by omega))⟩
  obtain ⟨i,hi⟩:=trod_i ⟨_,(hf 3 _ rfl).trans (List.getElem?_eq_getElem (by omega))⟩
  obtain ⟨f,g,hfg⟩:=zdp ⟨_,(hf 4 _ rfl).trans (List.getElem?_eq_getElem (by omega))⟩
  simp[zfr,zhj] at ha hde hb hi hfg
  exact ⟨⟨a,⟨d,e⟩,b,i,⟨f,g⟩⟩,by rw[ha,hde.1,hde.2,hb,hi,hfg.1,hfg.2];rfl⟩
theorem row_vr {α:Type}{t e:TypeId}{k:Nat}(d:α)(g:α→List Value)(G:α→AV)(hk:0<k)(hg:∀ y,(g y).length=k)(hG:∀ y,(G y).cells.length=k)(hv:∀ (y:α) (j:Nat) (x:AV) (r:Value),(G y).cells[j]?=some x→(g y)[j]?=some r→VR w (fun _=>False) nomu x r)
    (ht:Tryz.prog.underlying t=some (.slice e)) (hc:Tryz.prog.cellsOf e=k)
    (he:∀ (fuel:Nat) (cs:List Value),(∃ y,DataW.trod enc Tryz.prog w base spare held fuel e cs=some y)→∃ y,cs=g y)
    (h:∃ y,DataW.trod enc Tryz.prog w base spare held fuel t cs=some y):
    ∃ (l:List α) (x:Value),cs=[x]∧VR w (fun _=>False) nomu (.vs k (l.map G)) x:=by
  obtain ⟨y,h⟩:=h
  rcases open_slice ht h with ⟨rfl,_⟩|⟨a,len,cap,m,n,D,Pl,rfl,hb,hl,hm,hmm,hx,hi⟩
  · exact ⟨[],_,rfl,.vs0⟩
  · have hml:len≤m:=by rw[hmm];split<;>omega
    have:∀ i,∃ y:α,i<len→∀ j,j<k→∃ r,(g y)[j]?=some r∧w.cell? (a.add (i * k+j))=some r:=by
      intro i
      by_cases hlt:i<len
      · obtain ⟨cs',h1,h2⟩:=hi i (by omega)
        obtain ⟨y,rfl⟩:=he n cs' ⟨_,h2⟩
        rw[hc] at h1
        obtain ⟨_,_,h3⟩:=World.cells?_some h1
        refine ⟨y,fun _ j hj=>⟨(g y)[j]'(by rw[hg];exact hj),List.getElem?_eq_getElem _,?_⟩⟩
        rw[← Go.Deep.add_add,h3 j hj,List.getElem?_eq_getElem (by rw[hg];exact hj)]
      · exact ⟨d,fun h=>absurd h hlt⟩
    obtain ⟨f,hf⟩:=Classical.skolem.1 this
    refine ⟨(List.range len).map f,_,rfl,?_⟩
    by_cases h0:len=0
    · subst h0;exact .vs0
    · obtain ⟨r0,_,h00⟩:=hf 0 (by omega) 0 hk
      have hs:=World.cell?_spot h00
      obtain ⟨b,off,sp⟩:=a
      obtain rfl:sp=none:=by simpa [Addr.add] using hs
      have hadd:∀ u,Addr.add ⟨b,off,none⟩ u=⟨b,off+u,none⟩:=fun u=>by simp[Addr.add]
      have hlen:(((List.range len).map f).map G).length=len:=by simp
      have hat:∀ (i:Nat) (e:AV),(((List.range len).map f).map G)[i]?=some e→i<len∧e=G (f i):=by
        intro i e h
        have hi:i<len:=by have:=(List.getElem?_eq_some_iff.1 h).1;simpa using this
        simp[hi] at h
        exact ⟨hi,h.symm⟩
      have key:VR w (fun _=>False) nomu (.vs k (((List.range len).map f).map G)) (.slice (some ⟨b,off,none⟩) (((List.range len).map f).map G).length cap):=by
        refine .vs (fun i j=>(g (f i)).getD j .nilFunc) (by rw[hlen];exact hl) (fun i e h=>?_) (fun i e j x h hx=>⟨id,?_⟩) (fun i e j x h hx=>?_)
        · obtain ⟨_,rfl⟩:=hat i e h;exact hG _
        · obtain ⟨hi,rfl⟩:=hat i e h
          have hj:j<k:=by have:=(List.getElem?_eq_some_iff.1 hx).1;rwa [hG] at this
          obtain ⟨r,h1,h2⟩:=hf i hi j hj
          rw[hadd,← Nat.add_assoc] at h2
          rw[h2,List.getD_eq_getElem?_getD,h1];rfl
        · obtain ⟨hi,rfl⟩:=hat i e h
          have hj:j<k:=by have:=(List.getElem?_eq_some_iff.1 hx).1;rwa [hG] at this
          obtain ⟨r,h1,h2⟩:=hf i hi j hj
          rw[List.getD_eq_getElem?_getD,h1]
          exact hv _ j x r hx h1
      rw[hlen] at key
      exact key
theorem zmv {l:List AV}{m:List Value}(h:∀ (j:Nat) (x:AV) (r:Value),l[j]?=some x→m[j]?=some r→∃ n,x=.int .i64 n∧r=.int .i64 n)(j:Nat)(x:AV)(r:Value)(h1:l[j]?=some x)(h2:m[j]?=some r):VR w (fun _=>False) nomu x r:=by
  obtain ⟨n,rfl,rfl⟩:=h j x r h1 h2;exact .int
theorem zoo (h:∃ y,DataW.trod enc Tryz.prog w base spare held fuel 22 cs=some y):∃ (l:List Rd.Pt) (x:Value),cs=[x]∧VR w (fun _=>False) nomu (.vs 7 (l.map ptE)) x:=
  row_vr (k := 7) default ptR ptE (by decide) (fun _ => rfl) (fun _ => rfl) (fun y => zmv fun j x r h1 h2 => by
    match j,h1,h2 with
    |0,h1,h2=>cases h1;cases h2;exact ⟨_,rfl,rfl⟩
    |1,h1,h2=>cases h1;cases h2;exact ⟨_,rfl,rfl⟩
    |2,h1,h2=>cases h1;cases h2;exact ⟨_,rfl,rfl⟩
    |3,h1,h2=>cases h1;cases h2;exact ⟨_,rfl,rfl⟩
    |4,h1,h2=>cases h1;cases h2;exact ⟨_,rfl,rfl⟩
    |5,h1,h2=>cases h1;cases h2;exact ⟨_,rfl,rfl⟩
    |6,h1,h2=>cases h1;cases h2;exact ⟨_,rfl,rfl⟩
    |j+7,h1,h2=>simp[ptR] at h2) Tryz.underlying22 zij (fun _ _ h=>zrv h) h
theorem zlj (h:∃ y,DataW.trod enc Tryz.prog w base spare held fuel 23 cs=some y):∃ (l:List Rd.Evt) (x:Value),cs=[x]∧VR w (fun _=>False) nomu (.vs 7 (l.map evE)) x:=
  row_vr (k := 7) default evR evE (by decide) (fun _ => rfl) (fun _ => rfl) (fun y => zmv fun j x r h1 h2 => by
    match j,h1,h2 with
    |0,h1,h2=>cases h1;cases h2;exact ⟨_,rfl,rfl⟩
    |1,h1,h2=>cases h1;cases h2;exact ⟨_,rfl,rfl⟩
    |2,h1,h2=>cases h1;cases h2;exact ⟨_,rfl,rfl⟩
    |3,h1,h2=>cases h1;cases h2;exact ⟨_,rfl,rfl⟩
    |4,h1,h2=>cases h1;cases h2;exact ⟨_,rfl,rfl⟩
    |5,h1,h2=>cases h1;cases h2;exact ⟨_,rfl,rfl⟩
    |6,h1,h2=>cases h1;cases h2;exact ⟨_,rfl,rfl⟩
    |j+7,h1,h2=>simp[evR] at h2) Tryz.underlying23 zhk (fun _ _ h=>zop h) h
theorem trod_road (h:∃ y,DataW.trod enc Tryz.prog w base spare held fuel 25 cs=some y):∃ r:Rd.Road,VR w (fun _=>False) nomu (.agg (roadCs r)) (.agg cs.toArray):=by
  obtain ⟨y,h⟩:=h
  obtain ⟨xs,n,rfl,_,hl,hx,hf⟩:=DataW.trod_struct Tryz.underlying25 h
  rw[zrd] at hl
  have hx:xs.length=2:=hx
  obtain ⟨c0,c1,rfl⟩:=list2 hl
  clear hl
  obtain ⟨ps,x,hp,hvp⟩:=zoo ⟨_,(hf 0 _ rfl).trans (List.getElem?_eq_getElem (by omega))⟩
  obtain ⟨es,z,he,hve⟩:=zlj ⟨_,(hf 1 _ rfl).trans (List.getElem?_eq_getElem (by omega))⟩
  simp[zmn,zla] at hp he
  rw[hp,he]
  refine ⟨⟨ps,es⟩,.agg rfl fun i v r h1 h2=>?_⟩
  match i,h1,h2 with
  |0,h1,h2=>cases h1;cases h2;exact hvp
  |1,h1,h2=>cases h1;cases h2;exact hve
  |i+2,h1,h2=>simp at h2
end
end Ro
end Ev
end Go.Proofs.YtlcjlcllbgjplaaGreat
namespace Go.Proofs.YtlcjlcllbgjplaaGreat
open Go Go.Proofs Go.ChangeShapes Go.WideShapes Go.ChangeAt Go.RowKit
namespace Ev
namespace Ro
open K
theorem yas {w:Value}{b:Bool}(h:∀ W L μ,VR W L μ (.bool b) w)(W:World):w=.bool b:=by
  have:=h W (fun _=>False) nomu
  cases this with
  |dead h1=>cases h1
  |bool=>rfl
end Ro
end Ev
set_option maxRecDepth 100000 in
theorem zlt:ownKnob Tryz.prog.godebug=none:=by kernel_rfl
set_option maxRecDepth 100000 in
theorem laidOut':laidOutB Tryz.prog=true:=by kernel_rfl
def noRoad:Value:=.agg #[.slice none 0 0,.slice none 0 0]
set_option maxRecDepth 100000 in
theorem ztv {H:Type}{enc:TypeId × Value→H}{W:World}{v:Value}{d:DataW H}{p:List MemPlace}{base:Nat}
    (hv:Value.okWide Tryz.prog W .any base 25 v) (h:DataW.Trod enc Tryz.prog W 0 (fun _=>true) true 25 v d p):∃ r:Rd.Road,Ev.VR W (fun _=>False) Ev.nomu (.agg (Ev.Ro.roadCs r)) v:=by
  obtain ⟨cs,rfl,_⟩:=okWide_struct Tryz.underlying25 hv
  obtain ⟨fuel,hf⟩:=h
  obtain ⟨c,hc⟩:=Ev.Ro.trod_road (cs:=cs.toList) ⟨_,hf⟩
  exact ⟨c,by simpa using hc⟩
end Go.Proofs.YtlcjlcllbgjplaaGreat
