/- The Go function LoadAll returns true, for every argument, in every world in which it is called; nothing that was there is turned. No condition. -/
import Derived.Test.YtfpepkbflnendaaGreatLbPA
import Derived.Test.YtfpepkbflnendaaGreatLbEA
import Derived.Test.YtfpepkbflnendaaGreatProg
import Derived.KernelRfl
import Derived.Test.YtfpepkbflnendaaGreatLbEC
import Derived.Test.YtfpepkbflnendaaGreatLbPF
import Derived.RecoverIn
import Derived.Below
import Derived.ProofKit
import Derived.WalkKit
import Derived.StillTail
import Derived.StillTailTactics
import Derived.Deep.QuietTactic
import Derived.BigQuiet
import Derived.RangeFuncRecord
import Derived.Test.YtfpepkbflnendaaGreatLbEB
import Derived.Test.YtfpepkbflnendaaGreatLbPC
import Derived.Test.YtfpepkbflnendaaGreatLbQA
import Derived.Test.YtfpepkbflnendaaGreatLbPE
import Derived.Test.YtfpepkbflnendaaGreatRows
import Derived.OpenShut
import Derived.Deep.Slices
import Derived.Deep.Fields
import Derived.ChangeSame
import Derived.Test.YtfpepkbflnendaaGreatLbPG
/- The code of the evaluator is that of the program (part 1). Printed by program. -/
namespace Go.Proofs.YtfpepkbflnendaaGreat
open Go Go.Proofs
namespace Ev
set_option maxRecDepth 1000000
def IsF (k : Nat) (af : AFunc) : Prop := ∃ F, Tryz.prog.funcs[k]? = some F ∧ (F.name == "runtime.NumGoroutine")=false∧compFn Tryz.prog F=some af.strip
theorem isT {k : Nat} {F : Func} {af : AFunc} (h1 : Tryz.prog.funcs[k]? = some F) (h2 : (F.name == "runtime.NumGoroutine")=false:=by kernel_rfl) (h3:compFn Tryz.prog F=some af.strip:=by kernel_rfl):IsF k af:=⟨F,h1,h2,h3⟩
theorem is18:IsF 18 af18:=isT Tryz.func18
theorem is27:IsF 27 af27:=isT Tryz.func27
theorem is36:IsF 36 af36:=isT Tryz.func36
theorem is52:IsF 52 af52:=isT Tryz.func52
theorem is69:IsF 69 af69:=isT Tryz.func69
theorem is72:IsF 72 af72:=isT Tryz.func72
theorem is73:IsF 73 af73:=isT Tryz.func73
theorem is89:IsF 89 af89:=isT Tryz.func89
theorem is99:IsF 99 af99:=isT Tryz.func99
theorem is100:IsF 100 af100:=isT Tryz.func100
theorem is101:IsF 101 af101:=isT Tryz.func101
theorem is112:IsF 112 af112:=isT Tryz.func112
theorem is122:IsF 122 af122:=isT Tryz.func122
theorem is125:IsF 125 af125:=isT Tryz.func125
theorem is131:IsF 131 af131:=isT Tryz.func131
theorem is132:IsF 132 af132:=isT Tryz.func132
theorem is133:IsF 133 af133:=isT Tryz.func133
theorem is135:IsF 135 af135:=isT Tryz.func135
theorem is138:IsF 138 af138:=isT Tryz.func138
theorem is139:IsF 139 af139:=isT Tryz.func139
theorem is140:IsF 140 af140:=isT Tryz.func140
theorem is146:IsF 146 af146:=isT Tryz.func146
theorem is147:IsF 147 af147:=isT Tryz.func147
theorem is159:IsF 159 af159:=isT Tryz.func159
theorem is160:IsF 160 af160:=isT Tryz.func160
theorem is165:IsF 165 af165:=isT Tryz.func165
theorem is175:IsF 175 af175:=isT Tryz.func175
theorem is202:IsF 202 af202:=isT Tryz.func202
theorem is204:IsF 204 af204:=isT Tryz.func204
theorem is20:IsF 20 af20:=isT Tryz.func20
theorem is25:IsF 25 af25:=isT Tryz.func25
theorem is51:IsF 51 af51:=isT Tryz.func51
theorem is53:IsF 53 af53:=isT Tryz.func53
theorem is61:IsF 61 af61:=isT Tryz.func61
theorem is62:IsF 62 af62:=isT Tryz.func62
theorem is67:IsF 67 af67:=isT Tryz.func67
theorem is74:IsF 74 af74:=isT Tryz.func74
theorem is75:IsF 75 af75:=isT Tryz.func75
theorem is80:IsF 80 af80:=isT Tryz.func80
theorem is81:IsF 81 af81:=isT Tryz.func81
theorem is86:IsF 86 af86:=isT Tryz.func86
theorem is91:IsF 91 af91:=isT Tryz.func91
theorem is102:IsF 102 af102:=isT Tryz.func102
theorem is103:IsF 103 af103:=isT Tryz.func103
theorem is113:IsF 113 af113:=isT Tryz.func113
theorem is115:IsF 115 af115:=isT Tryz.func115
theorem is116:IsF 116 af116:=isT Tryz.func116
theorem is117:IsF 117 af117:=isT Tryz.func117
theorem is120:IsF 120 af120:=isT Tryz.func120
theorem is121:IsF 121 af121:=isT Tryz.func121
theorem is134:IsF 134 af134:=isT Tryz.func134
theorem is141:IsF 141 af141:=isT Tryz.func141
theorem is148:IsF 148 af148:=isT Tryz.func148
theorem is149:IsF 149 af149:=isT Tryz.func149
theorem is152:IsF 152 af152:=isT Tryz.func152
theorem is161:IsF 161 af161:=isT Tryz.func161
theorem is162:IsF 162 af162:=isT Tryz.func162
theorem is167:IsF 167 af167:=isT Tryz.func167
theorem is172:IsF 172 af172:=isT Tryz.func172
theorem is14:IsF 14 af14:=isT Tryz.func14
theorem is16:IsF 16 af16:=isT Tryz.func16
theorem is23:IsF 23 af23:=isT Tryz.func23
theorem is50:IsF 50 af50:=isT Tryz.func50
theorem is54:IsF 54 af54:=isT Tryz.func54
theorem is59:IsF 59 af59:=isT Tryz.func59
theorem is60:IsF 60 af60:=isT Tryz.func60
theorem is63:IsF 63 af63:=isT Tryz.func63
theorem is68:IsF 68 af68:=isT Tryz.func68
theorem is85:IsF 85 af85:=isT Tryz.func85
theorem is87:IsF 87 af87:=isT Tryz.func87
theorem is90:IsF 90 af90:=isT Tryz.func90
theorem is104:IsF 104 af104:=isT Tryz.func104
theorem is114:IsF 114 af114:=isT Tryz.func114
theorem is124:IsF 124 af124:=isT Tryz.func124
theorem is136:IsF 136 af136:=isT Tryz.func136
theorem is137:IsF 137 af137:=isT Tryz.func137
theorem is142:IsF 142 af142:=isT Tryz.func142
theorem is153:IsF 153 af153:=isT Tryz.func153
theorem is158:IsF 158 af158:=isT Tryz.func158
theorem is163:IsF 163 af163:=isT Tryz.func163
theorem is164:IsF 164 af164:=isT Tryz.func164
theorem is166:IsF 166 af166:=isT Tryz.func166
theorem is173:IsF 173 af173:=isT Tryz.func173
theorem is174:IsF 174 af174:=isT Tryz.func174
theorem is197:IsF 197 af197:=isT Tryz.func197
theorem is198:IsF 198 af198:=isT Tryz.func198
theorem is200:IsF 200 af200:=isT Tryz.func200
theorem is201:IsF 201 af201:=isT Tryz.func201
theorem is205:IsF 205 af205:=isT Tryz.func205
theorem is206:IsF 206 af206:=isT Tryz.func206
end Ev
namespace Ev
def FT.All (p:Nat→AFunc→Prop):FT→Prop
 |.leaf=>True
 |.node k f l r=>p k f∧(FT.All p l∧FT.All p r)
theorem FT.find_all {p:Nat→AFunc→Prop}:∀ {t:FT} {n:Nat} {f:AFunc},FT.All p t→FT.find t n=some f→p n f
 |.leaf,n,f,_,h=>by cases h
 |.node k g l r,n,f,ha,h=>by
  have e:FT.find (.node k g l r) n=(Bool.rec (Bool.rec (FT.find r n) (FT.find l n) (Nat.ble (Nat.succ n) k)) (some g) (Nat.beq n k):Option AFunc):=rfl
  rw[e] at h
  cases hb:Nat.beq n k with
  |true=>rw[hb] at h;cases h;rw[Nat.eq_of_beq_eq_true hb];exact ha.1
  |false=>
   rw[hb] at h
   cases hc:Nat.ble (Nat.succ n) k with
   |true=>rw[hc] at h;exact FT.find_all ha.2.1 h
   |false=>rw[hc] at h;exact FT.find_all ha.2.2 h
theorem zrw : FT.All (fun k af => ∃ F, Tryz.prog.funcs[k]? = some F ∧ (F.name == "runtime.NumGoroutine")=false∧compFn Tryz.prog F=some af.strip) fnTree:=
 ⟨is120,⟨is73,⟨is53,⟨is25,⟨is18,⟨is16,⟨is14,trivial,trivial⟩,trivial⟩,⟨is23,⟨is20,trivial,trivial⟩,trivial⟩⟩,⟨is50,⟨is36,⟨is27,trivial,trivial⟩,trivial⟩,⟨is52,⟨is51,trivial,trivial⟩,trivial⟩⟩⟩,⟨is63,⟨is60,⟨is59,⟨is54,trivial,trivial⟩,trivial⟩,⟨is62,⟨is61,trivial,trivial⟩,trivial⟩⟩,⟨is69,⟨is68,⟨is67,trivial,trivial⟩,trivial⟩,⟨is72,trivial,trivial⟩⟩⟩⟩,⟨is100,⟨is86,⟨is80,⟨is75,⟨is74,trivial,trivial⟩,trivial⟩,⟨is85,⟨is81,trivial,trivial⟩,trivial⟩⟩,⟨is90,⟨is89,⟨is87,trivial,trivial⟩,trivial⟩,⟨is99,⟨is91,trivial,trivial⟩,trivial⟩⟩⟩,⟨is113,⟨is103,⟨is102,⟨is101,trivial,trivial⟩,trivial⟩,⟨is112,⟨is104,trivial,trivial⟩,trivial⟩⟩,⟨is116,⟨is115,⟨is114,trivial,trivial⟩,trivial⟩,⟨is117,trivial,trivial⟩⟩⟩⟩⟩,⟨is158,⟨is138,⟨is132,⟨is124,⟨is122,⟨is121,trivial,trivial⟩,trivial⟩,⟨is131,⟨is125,trivial,trivial⟩,trivial⟩⟩,⟨is135,⟨is134,⟨is133,trivial,trivial⟩,trivial⟩,⟨is137,⟨is136,trivial,trivial⟩,trivial⟩⟩⟩,⟨is147,⟨is141,⟨is140,⟨is139,trivial,trivial⟩,trivial⟩,⟨is146,⟨is142,trivial,trivial⟩,trivial⟩⟩,⟨is152,⟨is149,⟨is148,trivial,trivial⟩,trivial⟩,⟨is153,trivial,trivial⟩⟩⟩⟩,⟨is173,⟨is164,⟨is161,⟨is160,⟨is159,trivial,trivial⟩,trivial⟩,⟨is163,⟨is162,trivial,trivial⟩,trivial⟩⟩,⟨is167,⟨is166,⟨is165,trivial,trivial⟩,trivial⟩,⟨is172,trivial,trivial⟩⟩⟩,⟨is201,⟨is197,⟨is175,⟨is174,trivial,trivial⟩,trivial⟩,⟨is200,⟨is198,trivial,trivial⟩,trivial⟩⟩,⟨is205,⟨is204,⟨is202,trivial,trivial⟩,trivial⟩,⟨is206,trivial,trivial⟩⟩⟩⟩⟩⟩
end Ev
namespace Ev
set_option maxRecDepth 1000000
theorem is13:IsF 13 af13:=isT Tryz.func13
theorem is38:IsF 38 af38:=isT Tryz.func38
theorem is42:IsF 42 af42:=isT Tryz.func42
theorem is45:IsF 45 af45:=isT Tryz.func45
theorem is47:IsF 47 af47:=isT Tryz.func47
theorem is105:IsF 105 af105:=isT Tryz.func105
theorem is144:IsF 144 af144:=isT Tryz.func144
theorem is8:IsF 8 af8:=isT Tryz.func8
theorem is12:IsF 12 af12:=isT Tryz.func12
theorem is29:IsF 29 af29:=isT Tryz.func29
theorem is37:IsF 37 af37:=isT Tryz.func37
theorem is41:IsF 41 af41:=isT Tryz.func41
theorem is46:IsF 46 af46:=isT Tryz.func46
theorem is111:IsF 111 af111:=isT Tryz.func111
end Ev
namespace Ev
def treeLoadAll:FT:=(.node 38 af38 (.node 12 af12 (.node 8 af8 .leaf .leaf) (.node 29 af29 .leaf .leaf)) (.node 42 af42 (.node 41 af41 .leaf .leaf) (.node 105 af105 .leaf .leaf)))
theorem ymh : FT.All (fun k af => ∃ F, Tryz.prog.funcs[k]? = some F ∧ (F.name == "runtime.NumGoroutine")=false∧compFn Tryz.prog F=some af.strip) treeLoadAll:=
 ⟨is38,⟨is12,⟨is8,trivial,trivial⟩,⟨is29,trivial,trivial⟩⟩,⟨is42,⟨is41,trivial,trivial⟩,⟨is105,trivial,trivial⟩⟩⟩
end Ev
end Go.Proofs.YtfpepkbflnendaaGreat
namespace Go.Proofs.YtfpepkbflnendaaGreat
open Go Go.RowKit
section
variable {P:Program} {n:Nat} {Q:Exit→Act→List Frame→World→Prop} {a:Act} {cs cs':List Frame} {w:World}

theorem zeh {id:Nat}{ops:Array Oper}{o:Oper}{rest:List Nat}{v:Value}(hl:List.range ops.size=0::rest)(ho:ops[0]?=some o)(hg:Region.wanted o (yielded ops a.tmps)=true)
  (hrun:(execOp a.eval o).run P w=.ok .recover w) (hrec:recoverD cs=some (v,cs')∨(recoverD cs=none∧v=.nilIface∧cs'=cs))
  (h:wpOpsIn Fence.wide n P ops (fun e a' w'=>Q e a' cs' w') rest (a.put o.dst v) w):(Code.region id ops false).wpSIn Fence.wide n P Q a cs w:=by
 intro b k hb hro hF hroom
 have hlen:cs'.length=cs.length:=by
  rcases hrec with h|⟨_,_,h⟩
  ·exact recoverD_length h
  ·rw[h]
 obtain ⟨e,a',w',hq,harr⟩:=wp_opsIn rest _ _ h b k cs' hro hF (by rw[hlen];exact hroom)
 have h0:(lone (b.atR a (.inRegion ops (0::rest)::k)) cs w).fenced P Fence.wide:=fenced_oper hF hroom ho fun _ _=>trivial
 have hgo:=stepGR_op (P:=P) (b:=b) (k:=k) (cs:=cs) (w:=w) (rest:=rest) ho hg
 rw[hro,Oper.semAt_none] at hgo
 have hfin:∀ v,(b.atR a (.inRegion ops (0::rest)::k)).finish v=b.atR (a.put o.dst v) (.inRegion ops rest::k):=by
  intro v;rw[Frame.finish_atR,ho];rfl
 have hk:(b.atR a (.inRegion ops (0::rest)::k)).kind=.deferred:=hb
 have htr:=tryRecover_deferred hk cs
 refine ⟨e,a',cs',w',hlen,hq,.of_steps (.head (fenced_calm hF hroom rfl) (stepR_region) (.one (by rw[hl];exact h0) (step_lone_go ?_))) harr⟩
 rw[hl,hgo,← hfin]
 rcases hrec with hrec|⟨hrec,rfl,rfl⟩
 ·simp only[Frame.atR,hro] at htr ⊢
  simp[stepG.apply,hrun,htr,hrec]
 ·simp only[Frame.atR,hro] at htr ⊢
  simp[stepG.apply,hrun,htr,hrec]
end
end Go.Proofs.YtfpepkbflnendaaGreat
namespace Go.Proofs.YtfpepkbflnendaaGreat
open Go Go.Proofs Go.RowKit
set_option maxHeartbeats 400000 in
set_option maxRecDepth 100000 in
theorem zjo (B off:Nat)(y:Value)(k:IntKind)(n:Int)(W:World)(hc:W.cell? ⟨B,off,none⟩=some y)(hz:W.frozen? ⟨B,off,none⟩=false):
  Calls Tryz.prog 98 #[.iface 161 (.agg #[.int k n]),.pointer (some ⟨B,off,none⟩)] W fun e W'=>e=.returned (.tuple #[])∧Below W.heap.size (W.setCell ⟨B,off,none⟩ (.int k n)) W':=by
 have hta:∀ w:World,(Instr.typeAssert (.iface 161 (.agg #[.int k n])) 20 161 true).run Tryz.prog w=.ok (.tuple #[.agg #[.int k n],.bool true]) w:=fun _=>by kernel_rfl
 have hlt:B<W.heap.size:=by
  unfold World.cell? at hc
  cases hb:W.heap[B]? with
  |none=>simp[hb] at hc
  |some x=>exact (Array.getElem?_eq_some_iff.1 hb).1
 have hca:∀ o,(W.alloc o).cell? ⟨B,off,none⟩=some y:=fun o=>(World.cell?_of_block (Below.heap_alloc W o B hlt)).trans hc
 have hza:∀ o,(W.alloc o).frozen? ⟨B,off,none⟩=false:=fun o=>(World.frozen?_of_block (Below.heap_alloc W o B hlt)).trans hz
 have hbel:∀ o,Below W.heap.size (W.setCell ⟨B,off,none⟩ (.int k n)) ((W.alloc o).setCell ⟨B,off,none⟩ (.int k n)):=fun o=>by
  refine ⟨rfl,rfl,rfl,by simp,fun i hi=>?_⟩
  simp only[World.setCell,Array.getElem?_modify]
  rw[Below.heap_alloc W o i hi]
 clear hc hz hlt
 go_enter Tryz.func98,Tryz.ntmps98
 go_wp2
 exact ⟨rfl,_,results_none rfl _ _ _,rfl,hbel _⟩
theorem zjp (x:Value)(W:World):Calls Tryz.prog 98 #[.nilIface,x] W fun e W'=>e=.returned (.tuple #[])∧Below W.heap.size W W':=by
 go_enter Tryz.func98,Tryz.ntmps98
 go_wp2
 exact ⟨rfl,_,results_none rfl _ _ _,rfl,Below.refl _ _⟩

theorem zbj {f : Nat} {fn : Func} {id : Nat} {ops : Array Oper} {o0 o1 : Oper} (hf : Tryz.prog.funcs[f]? = some fn) (hb : fn.body = some (.region id ops false)) (hn : fn.ntmps = 3) (hr : fn.results = #[]) (_hnm : (fn.name == "runtime.NumGoroutine")=false)
  (ho:ops=#[o0,o1]) (h0:o0.op=.call { callee:=.builtin .recover,args:=#[],argTypes:=#[] }) (hd0:o0.dst=some 1) (hg0:o0.guard=none) (hd1:o1.dst=some 2) (hg1:o1.guard=none) {ts:Array TypeId} (h1:o1.op=.call { callee:=.value (.func 98),args:=#[.tmp 1,.tmp 0],argTypes:=ts }):
  (∀ (x:Value) (W:World),CallsDIn Fence.wide 0 Tryz.prog f #[x] .returning W fun e u' W'=>(∃ v,e=.returned v)∧u'=.returning∧Below W.heap.size W W') ∧
  (∀ (B off : Nat) (y x : Value) (k : IntKind) (n : Int) (W : World), W.cell? ⟨B, off, none⟩ = some y → W.frozen? ⟨B, off, none⟩ = false → x = .agg #[.int k n] →
   CallsDIn Fence.wide 0 Tryz.prog f #[.pointer (some ⟨B,off,none⟩)] (.panicking [{ v:=.iface 161 x,recovered:=false }]) W fun e u' W'=>
    (∃ v,e=.returned v)∧u'=.panicking [{ v:=.iface 161 x,recovered:=true }]∧Below W.heap.size (W.setCell ⟨B,off,none⟩ (.int k n)) W'):=by
 have hwalk:∀ (x rv:Value) (u u':FrameMode) (W:World) (R:World→Prop),(∀ (c₀:Frame) (cs:List Frame),c₀.mode=u→recoverD (c₀::cs)=some (rv,{ c₀ with mode:=u' }::cs)∨(recoverD (c₀::cs)=none∧rv=.nilIface∧{ c₀ with mode:=u' }::cs=c₀::cs)) →
   Calls Tryz.prog 98 #[rv,x] W (fun e W'=>e=.returned (.tuple #[])∧R W')→CallsDIn Fence.wide 0 Tryz.prog f #[x] u W fun e v' W'=>(∃ v,e=.returned v)∧v'=u'∧R W':=by
  intro x rv u u' W R hrec hcall
  refine callsDIn_of_wpSIn hf hb trivial fun c₀ cs hu=>?_
  refine zeh (o:=o0) (rest:=[1]) (v:=rv) (cs':={ c₀ with mode:=u' }::cs) (by rw[ho];rfl) (by rw[ho];rfl) (by simp[Region.wanted,hg0]) (by simp[execOp,h0,resolve,go_sem]) (hrec c₀ cs hu) ?_
  have hev:∀ _:Nat,(#[x]++Array.replicate (fn.ntmps - 1) undef:Array Value)=#[x,undef,undef]:=fun _=>by rw[hn];rfl
  simp only[List.size_toArray,List.length_cons,List.length_nil,Nat.zero_add,hev 0,Act.put,hd0]
  unfold wpOpsIn
  rw[show ops[1]?=some o1 by rw[ho];rfl]
  simp only[Region.wanted,hg1,if_true]
  refine ⟨fun _ _=>trivial,?_⟩
  have hrun:(o1.semAt Fence.wide.round (Act.eval { tmps:=(#[x,undef,undef]:Array Value).setIfInBounds 1 rv,defers:=[] })).run Tryz.prog W=.ok (.enter 98 #[rv,x]) W:=by
   rw[Oper.semAt_eq _ _ _ (by rw[h1];intro c hc;cases hc)]
   simp[execOp,h1,resolve,go_sem,Deferred.ofValue,Act.eval]
  rw[hrun,Oper.uponIn_enter]
  refine ⟨fun h=>by simp[Fence.wide] at h,((callsIn_wide (n:=0)).2 hcall).mono ?_⟩
  rintro e W' ⟨rfl,hR⟩
  simp only[wpOpsIn,Act.put,hd1]
  refine ⟨rfl,u',rfl,.tuple #[],results_none hr _ _ _,⟨_,rfl⟩,rfl,hR⟩
 refine ⟨fun x W=>?_,fun B off y x k n W hc hz hx=>?_⟩
 ·refine (hwalk x .nilIface .returning .returning W (Below W.heap.size W) (fun c₀ cs hu=>.inr ⟨by simp[recoverD,hu],rfl,by cases c₀;simp_all⟩) (zjp x W))
 ·subst hx
  refine hwalk _ _ _ _ W _ (fun c₀ cs hu=>.inl ?_) (zjo B off y k n W hc hz)
  simp[recoverD,hu]
end Go.Proofs.YtfpepkbflnendaaGreat
namespace Go.Proofs.YtfpepkbflnendaaGreat
open Go
structure Cls (p:World→Prop) where
 W:World
 ok:p W

theorem Cls.step {N:Nat}{W w2:World}(s:Cls (RowKit.Below N W))(hN:N≤W.heap.size)(hb:RowKit.Below s.W.heap.size s.W w2):∃ s':Cls (RowKit.Below N W),w2=s'.W:=
 ⟨⟨w2,s.ok.trans (hb.mono (Nat.le_trans hN s.ok.size))⟩,rfl⟩

section
variable {P:Program} {ops:Array Oper} {md:Region.Mode} {C:World→Prop}

theorem zei {S:Type}(f:S→World){id:Nat}{Q:Exit→Act→World→Prop}{a:Act}{w:World}{l:List Oper}(hm:P.follows .mixedOrders=true)(hB:Region.lexB .any l.toArray=true)
  (hC:∃ s,w.drew=f s)
  (h:wpQuiet P l.toArray (fun w'=>∃ s,w'=f s) (fun a'=>∀ s,Q .normal a' (f s)) l a):(Code.region id l.toArray true).wp P Q a w:=
 wp_region_quiet hm hB hC (by
  have:(fun a'=>∀ s,Q .normal a' (f s))=(fun a'=>∀ w',(∃ s,w'=f s)→Q .normal a' w'):=by funext a';simp
  rw[this] at h;exact h)
end
end Go.Proofs.YtfpepkbflnendaaGreat
namespace Go.Proofs.YtfpepkbflnendaaGreat
open Go Go.Proofs Go.RowKit
theorem quietV {P:Program}{S:Type}[Nonempty S]{f:S→World}{ops:Array Oper}{Q:Act→Prop}{o:Oper}{rest:List Oper}{a:Act}{v:Value}
  (h:∀ s:S,(execOp a.eval o).run P (f s)=.ok (.value v) (f s)) (hg:Region.wanted o (yielded ops a.tmps)=true) (hq:wpQuiet P ops (fun w'=>∃ s,w'=f s) Q rest (a.put o.dst v)):wpQuiet P ops (fun w'=>∃ s,w'=f s) Q (o::rest) a:=by
 refine wpQuiet_step fun K hK=>?_
 rw[if_pos hg]
 refine ⟨v,?_,hK _ hq⟩
 rintro w ⟨s,rfl⟩
 unfold Oper.quietAt
 rw[h s]
 exact ⟨rfl,rfl⟩
set_option maxHeartbeats 400000 in
set_option maxRecDepth 100000 in
theorem zpj (s k f h d:Int)(W:World):Calls Tryz.prog 163 #[.agg #[.int .i64 s,.int .i64 k,.int .i64 f],.int .i64 h,.int .i64 d] W fun e W'=>
  e=.returned (.int .i64 (min f (IntKind.i64.wrap (h+IntKind.i64.wrap (d * k)))))∧Below W.heap.size W W':=by
 go_enter Tryz.func163,Tryz.ntmps163
 go_wp2
 all_goals refine ⟨rfl,_,results_tmp rfl _ _ _,?_,(Below.refl _ _).alloc (Nat.le_refl _) _⟩
 ·rename_i hlt
  simp only[Array.getD_eq_getD_getElem?,List.getElem?_toArray,List.getElem?_cons_succ,List.getElem?_cons_zero,Option.getD_some,Ending.returned.injEq,Value.int.injEq,true_and]
  have hw:∀ n,IntKind.i64.wrap n=wrap64 n:=fun n=>by rw[IntKind.wrap_i64];unfold wrap64;first|rfl|omega
  simp only[hw]
  omega
 ·rename_i hlt
  simp only[Array.getD_eq_getD_getElem?,List.getElem?_toArray,List.getElem?_cons_succ,List.getElem?_cons_zero,Option.getD_some,Ending.returned.injEq,Value.int.injEq,true_and]
  have hw:∀ n,IntKind.i64.wrap n=wrap64 n:=fun n=>by rw[IntKind.wrap_i64];unfold wrap64;first|rfl|omega
  simp only[hw]
  omega
set_option maxHeartbeats 400000 in
set_option maxRecDepth 100000 in
theorem zxz (p:Value)(h l:Int)(W:World):Calls Tryz.prog 198 #[.agg #[],p,.int .i64 h,.int .i64 l] W fun e W'=>
  e=.returned (.int .i64 h)∧Below W.heap.size W W':=by
 go_enter Tryz.func198,Tryz.ntmps198
 go_wp2
 all_goals refine ⟨rfl,_,results_tmp rfl _ _ _,rfl,((Below.refl _ _).alloc (Nat.le_refl _) _).alloc (by simp) _⟩
theorem yab (days:Int)(B:Nat)(W:World)(hb:W.heap[B]?=some (.cells #[.int .i64 days] 171 (0,0))):(Instr.fieldAt 171 (.pointer (some ⟨B,0,none⟩)) 0).run Tryz.prog W=.ok (.pointer (some ⟨B,0,none⟩)) W:=by
 have h1:Tryz.prog.cellsOf 171=1:=by kernel_rfl
 have h2:∀ w,(sizeOf 169).run Tryz.prog w=.ok 0 w:=fun w=>by kernel_rfl
 have hsh:(shape B).run Tryz.prog W=.ok (some (171,1)) W:=by simp[shape,Sem.run,World.shape?,hb]
 have h3:byteOfCell Tryz.prog Tryz.prog.depth 171 0=some 0:=by kernel_rfl
 have hs':W.shape? B=some (171,1):=by simp[World.shape?,hb]
 have hva:(viewAt B).run Tryz.prog W=.ok none W:=by simp[viewAt,hs']
 have hnv:(noView ⟨B,0,none⟩).run Tryz.prog W=.ok () W:=by simp[noView,hva,Result.andThen]
 simp[Instr.fieldAt,run_underlying Tryz.underlying171,Instr.sureAddr,fieldPlace,h2,partAt,byteOf,hnv,hs',h1,h3,Result.andThen]

set_option maxHeartbeats 1000000 in
set_option maxRecDepth 100000 in
theorem zxn (days s k f h l:Int)(W:World):Calls Tryz.prog 199 #[.agg #[.int .i64 days],.agg #[.int .i64 s,.int .i64 k,.int .i64 f],.int .i64 h,.int .i64 l] W fun e W'=>
  e=.returned (.int .i64 (min f (IntKind.i64.wrap (h+IntKind.i64.wrap (days * k)))))∧Below W.heap.size W W':=by
 have hld:∀ (B:Nat) (w:World),(Instr.loadAt 169 (.pointer (some ⟨B,0,none⟩))).run Tryz.prog w=.ok (.agg #[]) w:=fun B w=>by
  have h2:(sizeOf 169).run Tryz.prog w=.ok 0 w:=by kernel_rfl
  simp[Instr.loadAt,Instr.sureAddr,loadVar,isAgg,run_underlying Tryz.underlying169,loadCells,loadCellsFrom]
 go_enter Tryz.func199,Tryz.ntmps199
 go_wp2
 obtain ⟨W2,hW2⟩:∃ W2,W2=(W.alloc (Obj.cells #[Value.int IntKind.i64 days] 171)).alloc (Obj.cells #[Value.int IntKind.i64 s,Value.int IntKind.i64 k,Value.int IntKind.i64 f] 182):=⟨_,rfl⟩
 have g4:W2.heap[W.heap.size]?=some (.cells #[.int .i64 days] 171 (0,0)):=by
  rw[hW2,Below.heap_alloc _ _ _ (by simp)];exact World.alloc_heap_new W _
 have g5:W2.heap[W.heap.size+1]?=some (.cells #[.int .i64 s,.int .i64 k,.int .i64 f] 182 (0,0)):=by
  rw[hW2];have:=World.alloc_heap_new (W.alloc (Obj.cells #[Value.int IntKind.i64 days] 171)) (Obj.cells #[Value.int IntKind.i64 s,Value.int IntKind.i64 k,Value.int IntKind.i64 f] 182);rwa [World.size_alloc] at this
 have hbel:Below W.heap.size W W2:=by rw[hW2];exact ((Below.refl _ _).alloc (Nat.le_refl _) _).alloc (by simp) _
 rw[← hW2]
 clear hW2
 have l4:W.heap.size<W2.heap.size:=(Array.getElem?_eq_some_iff.1 g4).1
 have l5:W.heap.size+1<W2.heap.size:=(Array.getElem?_eq_some_iff.1 g5).1
 have q4:W2.cell? ⟨W.heap.size,0,none⟩=some (.int .i64 days):=by simp[World.cell?,g4]
 have q50:W2.cell? ⟨W.heap.size+1,0,none⟩=some (.int .i64 s):=by simp[World.cell?,g5]
 have q51:W2.cell? ⟨W.heap.size+1,1,none⟩=some (.int .i64 k):=by simp[World.cell?,g5]
 have q52:W2.cell? ⟨W.heap.size+1,2,none⟩=some (.int .i64 f):=by simp[World.cell?,g5]
 have hb4:∀ st:Cls (Below W2.heap.size W2),st.W.heap[W.heap.size]?=some (.cells #[.int .i64 days] 171 (0,0)):=fun st=>(st.ok.block _ l4).trans g4
 generalize hp:W.heap.size=p4 at *
 have hcl:∃ s:Cls (Below (W2.heap.size) (W2)),(W2).drew=s.W:=⟨⟨_,(Below.refl _ _).drew⟩,rfl⟩
 have hne:Nonempty (Cls (Below (W2.heap.size) (W2))):=⟨⟨_,Below.refl _ _⟩⟩
 have hS:∀ (s:Cls (Below (W2.heap.size) (W2))) (b o:Nat),b<W2.heap.size→s.W.cell? ⟨b,o,none⟩=(W2).cell? ⟨b,o,none⟩:=fun s b o h=>s.ok.cell (p:=⟨b,o,none⟩) h
 have hSf:∀ (s:Cls (Below (W2.heap.size) (W2))) (b o:Nat),b<W2.heap.size→s.W.frozen? ⟨b,o,none⟩=(W2).frozen? ⟨b,o,none⟩:=fun s b o h=>s.ok.frozen (p:=⟨b,o,none⟩) h
 refine zei (S:=Cls (Below W2.heap.size W2)) Cls.W (by kernel_rfl) (by kernel_rfl) hcl ?_
 clear hcl
 go_big_quiet_step (fail)
 refine quietV (v:=.pointer (some ⟨p4,0,none⟩)) (fun st=>?_) rfl ?_
 ·have:=yab days p4 st.W (hb4 st)
  simp[execOp,Act.eval,this]
 simp only[Act.put,List.setIfInBounds_toArray,List.set_cons_succ,List.set_cons_zero]
 refine quietV (v:=.agg #[]) (fun st=>?_) rfl ?_
 ·have:=hld p4 st.W
  simp[execOp,Act.eval,this]
 simp only[Act.put,List.setIfInBounds_toArray,List.set_cons_succ,List.set_cons_zero]
 repeat (go_big_quiet_step ((first|(go_at_call 198;refine (zxz _ _ _ _).mono ?_;rintro e w2 ⟨rfl,hb⟩;exact ⟨rfl,Cls.step _ (Nat.le_refl _) hb⟩)|(go_at_call 163;refine (zpj _ _ _ _ _ _).mono ?_;rintro e w2 ⟨rfl,hb⟩;exact ⟨rfl,Cls.step _ (Nat.le_refl _) hb⟩))))
 refine wpQuiet_nil ?_
 intro st
 have hfin:=hbel.trans (st.ok.mono (Nat.le_of_lt l4))
 clear hS hSf hne hb4 g4 g5 q4 q50 q51 q52 l4 l5
 generalize st.W=W3 at *
 clear st
 go_wp2
 exact ⟨rfl,_,results_tmp rfl _ _ _,rfl,by rw[hp];exact hfin⟩
end Go.Proofs.YtfpepkbflnendaaGreat
namespace Go.Proofs.YtfpepkbflnendaaGreat
open Go Go.Proofs Go.RowKit
set_option maxHeartbeats 400000 in
set_option maxRecDepth 100000 in
theorem ycu (B off:Nat)(y:Value)(k:IntKind)(n:Int)(W:World)(hc:W.cell? ⟨B,off,none⟩=some y)(hz:W.frozen? ⟨B,off,none⟩=false):
  Calls Tryz.prog 49 #[.iface 131 (.agg #[.int k n]),.pointer (some ⟨B,off,none⟩)] W fun e W'=>e=.returned (.tuple #[])∧Below W.heap.size (W.setCell ⟨B,off,none⟩ (.int k n)) W':=by
 have hta:∀ w:World,(Instr.typeAssert (.iface 131 (.agg #[.int k n])) 20 131 true).run Tryz.prog w=.ok (.tuple #[.agg #[.int k n],.bool true]) w:=fun _=>by kernel_rfl
 have hlt:B<W.heap.size:=by
  unfold World.cell? at hc
  cases hb:W.heap[B]? with
  |none=>simp[hb] at hc
  |some x=>exact (Array.getElem?_eq_some_iff.1 hb).1
 have hca:∀ o,(W.alloc o).cell? ⟨B,off,none⟩=some y:=fun o=>(World.cell?_of_block (Below.heap_alloc W o B hlt)).trans hc
 have hza:∀ o,(W.alloc o).frozen? ⟨B,off,none⟩=false:=fun o=>(World.frozen?_of_block (Below.heap_alloc W o B hlt)).trans hz
 have hbel:∀ o,Below W.heap.size (W.setCell ⟨B,off,none⟩ (.int k n)) ((W.alloc o).setCell ⟨B,off,none⟩ (.int k n)):=fun o=>by
  refine ⟨rfl,rfl,rfl,by simp,fun i hi=>?_⟩
  simp only[World.setCell,Array.getElem?_modify]
  rw[Below.heap_alloc W o i hi]
 clear hc hz hlt
 go_enter Tryz.func49,Tryz.ntmps49
 go_wp2
 exact ⟨rfl,_,results_none rfl _ _ _,rfl,hbel _⟩
theorem yhz (x:Value)(W:World):Calls Tryz.prog 49 #[.nilIface,x] W fun e W'=>e=.returned (.tuple #[])∧Below W.heap.size W W':=by
 go_enter Tryz.func49,Tryz.ntmps49
 go_wp2
 exact ⟨rfl,_,results_none rfl _ _ _,rfl,Below.refl _ _⟩

theorem ybg {f : Nat} {fn : Func} {id : Nat} {ops : Array Oper} {o0 o1 : Oper} (hf : Tryz.prog.funcs[f]? = some fn) (hb : fn.body = some (.region id ops false)) (hn : fn.ntmps = 3) (hr : fn.results = #[]) (_hnm : (fn.name == "runtime.NumGoroutine")=false)
  (ho:ops=#[o0,o1]) (h0:o0.op=.call { callee:=.builtin .recover,args:=#[],argTypes:=#[] }) (hd0:o0.dst=some 1) (hg0:o0.guard=none) (hd1:o1.dst=some 2) (hg1:o1.guard=none) {ts:Array TypeId} (h1:o1.op=.call { callee:=.value (.func 49),args:=#[.tmp 1,.tmp 0],argTypes:=ts }):
  (∀ (x:Value) (W:World),CallsDIn Fence.wide 0 Tryz.prog f #[x] .returning W fun e u' W'=>(∃ v,e=.returned v)∧u'=.returning∧Below W.heap.size W W') ∧
  (∀ (B off : Nat) (y x : Value) (k : IntKind) (n : Int) (W : World), W.cell? ⟨B, off, none⟩ = some y → W.frozen? ⟨B, off, none⟩ = false → x = .agg #[.int k n] →
   CallsDIn Fence.wide 0 Tryz.prog f #[.pointer (some ⟨B,off,none⟩)] (.panicking [{ v:=.iface 131 x,recovered:=false }]) W fun e u' W'=>
    (∃ v,e=.returned v)∧u'=.panicking [{ v:=.iface 131 x,recovered:=true }]∧Below W.heap.size (W.setCell ⟨B,off,none⟩ (.int k n)) W'):=by
 have hwalk:∀ (x rv:Value) (u u':FrameMode) (W:World) (R:World→Prop),(∀ (c₀:Frame) (cs:List Frame),c₀.mode=u→recoverD (c₀::cs)=some (rv,{ c₀ with mode:=u' }::cs)∨(recoverD (c₀::cs)=none∧rv=.nilIface∧{ c₀ with mode:=u' }::cs=c₀::cs)) →
   Calls Tryz.prog 49 #[rv,x] W (fun e W'=>e=.returned (.tuple #[])∧R W')→CallsDIn Fence.wide 0 Tryz.prog f #[x] u W fun e v' W'=>(∃ v,e=.returned v)∧v'=u'∧R W':=by
  intro x rv u u' W R hrec hcall
  refine callsDIn_of_wpSIn hf hb trivial fun c₀ cs hu=>?_
  refine zeh (o:=o0) (rest:=[1]) (v:=rv) (cs':={ c₀ with mode:=u' }::cs) (by rw[ho];rfl) (by rw[ho];rfl) (by simp[Region.wanted,hg0]) (by simp[execOp,h0,resolve,go_sem]) (hrec c₀ cs hu) ?_
  have hev:∀ _:Nat,(#[x]++Array.replicate (fn.ntmps - 1) undef:Array Value)=#[x,undef,undef]:=fun _=>by rw[hn];rfl
  simp only[List.size_toArray,List.length_cons,List.length_nil,Nat.zero_add,hev 0,Act.put,hd0]
  unfold wpOpsIn
  rw[show ops[1]?=some o1 by rw[ho];rfl]
  simp only[Region.wanted,hg1,if_true]
  refine ⟨fun _ _=>trivial,?_⟩
  have hrun:(o1.semAt Fence.wide.round (Act.eval { tmps:=(#[x,undef,undef]:Array Value).setIfInBounds 1 rv,defers:=[] })).run Tryz.prog W=.ok (.enter 49 #[rv,x]) W:=by
   rw[Oper.semAt_eq _ _ _ (by rw[h1];intro c hc;cases hc)]
   simp[execOp,h1,resolve,go_sem,Deferred.ofValue,Act.eval]
  rw[hrun,Oper.uponIn_enter]
  refine ⟨fun h=>by simp[Fence.wide] at h,((callsIn_wide (n:=0)).2 hcall).mono ?_⟩
  rintro e W' ⟨rfl,hR⟩
  simp only[wpOpsIn,Act.put,hd1]
  refine ⟨rfl,u',rfl,.tuple #[],results_none hr _ _ _,⟨_,rfl⟩,rfl,hR⟩
 refine ⟨fun x W=>?_,fun B off y x k n W hc hz hx=>?_⟩
 ·refine (hwalk x .nilIface .returning .returning W (Below W.heap.size W) (fun c₀ cs hu=>.inr ⟨by simp[recoverD,hu],rfl,by cases c₀;simp_all⟩) (yhz x W))
 ·subst hx
  refine hwalk _ _ _ _ W _ (fun c₀ cs hu=>.inl ?_) (ycu B off y k n W hc hz)
  simp[recoverD,hu]
set_option maxHeartbeats 400000 in
set_option maxRecDepth 100000 in
theorem ydk (W:World):Calls Tryz.prog 201 #[.agg #[]] W fun e W'=>e=.returned (.int .i64 1)∧Below W.heap.size W W':=by
 go_enter Tryz.func201,Tryz.ntmps201
 go_wp2
 all_goals refine ⟨rfl,_,results_tmp rfl _ _ _,rfl,?_⟩
 all_goals first|exact Below.refl _ _|exact (Below.refl _ _).alloc (Nat.le_refl _) _
theorem yin (B:Nat)(W:World)(hb:W.heap[B]?=some (.cells #[] 192 (0,0))):(partAt ⟨B,0,none⟩ 0 0).run Tryz.prog W=.ok ⟨B,0,none⟩ W:=by
 have h1:Tryz.prog.cellsOf 192=0:=by kernel_rfl
 have hs':W.shape? B=some (192,0):=by simp[World.shape?,hb]
 have hva:(viewAt B).run Tryz.prog W=.ok none W:=by simp[viewAt,hs']
 have hnv:(noView ⟨B,0,none⟩).run Tryz.prog W=.ok () W:=by simp[noView,hva,Result.andThen]
 simp[partAt,byteOf,hnv,hs',h1,Result.andThen]
set_option maxHeartbeats 400000 in
set_option maxRecDepth 100000 in
theorem ycv (W:World):Calls Tryz.prog 203 #[.agg #[]] W fun e W'=>e=.returned (.int .i64 2)∧Below W.heap.size W W':=by
 have hld:∀ (B:Nat) (w:World),(Instr.loadAt 190 (.pointer (some ⟨B,0,none⟩))).run Tryz.prog w=.ok (.agg #[]) w:=fun B w=>by
  have h2:(sizeOf 190).run Tryz.prog w=.ok 0 w:=by kernel_rfl
  simp[Instr.loadAt,Instr.sureAddr,loadVar,isAgg,run_underlying Tryz.underlying190,loadCells,loadCellsFrom]
 have hfa:=yin W.heap.size (W.alloc (Obj.cells #[] 192)) (World.alloc_heap_new W _)
 go_enter Tryz.func203,Tryz.ntmps203
 go_wp2_with (go_at_call 201;refine (ydk _).mono ?_;rintro e w1 ⟨rfl,hb1⟩)
 refine ⟨rfl,_,results_tmp rfl _ _ _,rfl,?_⟩
 exact ((Below.refl _ _).alloc (Nat.le_refl _) _).trans (hb1.mono (by simp))
end Go.Proofs.YtfpepkbflnendaaGreat
namespace Go.Proofs.YtfpepkbflnendaaGreat
open Go
namespace Ev
def closR:List Nat:=[145,97]
def closL:List Nat:=[48,58,66,71,79,84,88]
noncomputable def memN:List Nat→Nat→Bool:=fun l=>List.rec (motive:=fun _=>Nat→Bool) (fun _=>false) (fun x _ ih n=>Bool.rec (ih n) true (Nat.beq n x)) l
noncomputable def restV (d k f h:Int):Option AV:=Bool.rec none (some (.int .i64 (Bool.rec (Q.addI h (d * k)) f (Q.leI f (Q.addI h (d * k)))))) (Q.andB (Q.fits .i64 (d * k)) (Q.fits .i64 (Q.addI h (d * k))))
noncomputable def restG (args:List AV):Option AV:=match args with
 |[.agg [.int .i64 d],.agg [.int .i64 _,.int .i64 k,.int .i64 f],.int .i64 h,.int .i64 _]=>restV d k f h
 |_=>none
noncomputable def sinksG (args:List AV):Option AV:=match args with
 |[.agg []]=>some (.int .i64 2)
 |_=>none
noncomputable def dfkL (f:Nat):Option (Nat × Bool):=Bool.rec (Bool.rec none (some (131,true)) (memN closL f)) (some (161,true)) (memN closR f)
noncomputable def extL (f:Nat):Option (List AV→Option AV):=Bool.rec (Bool.rec none (some sinksG) (Nat.beq f 203)) (some restG) (Nat.beq f 199)
end Ev
end Go.Proofs.YtfpepkbflnendaaGreat
namespace Go.Proofs.YtfpepkbflnendaaGreat
open Go Go.Proofs
namespace Ev
set_option maxRecDepth 100000
theorem dfRoadWeak:DfOk Tryz.prog 145 161 true:=by
 obtain ⟨h1,h2⟩:=zbj (f:=145) Tryz.func145 rfl rfl rfl (by kernel_rfl) rfl rfl rfl rfl rfl rfl rfl
 exact ⟨⟨_,Tryz.func145,by kernel_rfl,by kernel_rfl⟩,h1,fun B off y x k n W hc hz hx=>h2 B off y x k n W hc hz (by simpa using hx)⟩
theorem dfRoadBears:DfOk Tryz.prog 97 161 true:=by
 obtain ⟨h1,h2⟩:=zbj (f:=97) Tryz.func97 rfl rfl rfl (by kernel_rfl) rfl rfl rfl rfl rfl rfl rfl
 exact ⟨⟨_,Tryz.func97,by kernel_rfl,by kernel_rfl⟩,h1,fun B off y x k n W hc hz hx=>h2 B off y x k n W hc hz (by simpa using hx)⟩
theorem dfLoadCheck:DfOk Tryz.prog 48 131 true:=by
 obtain ⟨h1,h2⟩:=ybg (f:=48) Tryz.func48 rfl rfl rfl (by kernel_rfl) rfl rfl rfl rfl rfl rfl rfl
 exact ⟨⟨_,Tryz.func48,by kernel_rfl,by kernel_rfl⟩,h1,fun B off y x k n W hc hz hx=>h2 B off y x k n W hc hz (by simpa using hx)⟩
theorem dfLoadPlan:DfOk Tryz.prog 58 131 true:=by
 obtain ⟨h1,h2⟩:=ybg (f:=58) Tryz.func58 rfl rfl rfl (by kernel_rfl) rfl rfl rfl rfl rfl rfl rfl
 exact ⟨⟨_,Tryz.func58,by kernel_rfl,by kernel_rfl⟩,h1,fun B off y x k n W hc hz hx=>h2 B off y x k n W hc hz (by simpa using hx)⟩
theorem dfLoadAll:DfOk Tryz.prog 66 131 true:=by
 obtain ⟨h1,h2⟩:=ybg (f:=66) Tryz.func66 rfl rfl rfl (by kernel_rfl) rfl rfl rfl rfl rfl rfl rfl
 exact ⟨⟨_,Tryz.func66,by kernel_rfl,by kernel_rfl⟩,h1,fun B off y x k n W hc hz hx=>h2 B off y x k n W hc hz (by simpa using hx)⟩
theorem dfLoadAlone:DfOk Tryz.prog 71 131 true:=by
 obtain ⟨h1,h2⟩:=ybg (f:=71) Tryz.func71 rfl rfl rfl (by kernel_rfl) rfl rfl rfl rfl rfl rfl rfl
 exact ⟨⟨_,Tryz.func71,by kernel_rfl,by kernel_rfl⟩,h1,fun B off y x k n W hc hz hx=>h2 B off y x k n W hc hz (by simpa using hx)⟩
theorem dfLoadNever:DfOk Tryz.prog 79 131 true:=by
 obtain ⟨h1,h2⟩:=ybg (f:=79) Tryz.func79 rfl rfl rfl (by kernel_rfl) rfl rfl rfl rfl rfl rfl rfl
 exact ⟨⟨_,Tryz.func79,by kernel_rfl,by kernel_rfl⟩,h1,fun B off y x k n W hc hz hx=>h2 B off y x k n W hc hz (by simpa using hx)⟩
theorem dfLoadWith:DfOk Tryz.prog 84 131 true:=by
 obtain ⟨h1,h2⟩:=ybg (f:=84) Tryz.func84 rfl rfl rfl (by kernel_rfl) rfl rfl rfl rfl rfl rfl rfl
 exact ⟨⟨_,Tryz.func84,by kernel_rfl,by kernel_rfl⟩,h1,fun B off y x k n W hc hz hx=>h2 B off y x k n W hc hz (by simpa using hx)⟩
theorem dfLoadMore:DfOk Tryz.prog 88 131 true:=by
 obtain ⟨h1,h2⟩:=ybg (f:=88) Tryz.func88 rfl rfl rfl (by kernel_rfl) rfl rfl rfl rfl rfl rfl rfl
 exact ⟨⟨_,Tryz.func88,by kernel_rfl,by kernel_rfl⟩,h1,fun B off y x k n W hc hz hx=>h2 B off y x k n W hc hz (by simpa using hx)⟩
theorem znm:∀ {l:List Nat} {n:Nat},memN l n=true→n∈l
 |[],n,h=>by cases h
 |x::l,n,h=>by
  have e:memN (x::l) n=(Bool.rec (memN l n) true (Nat.beq n x):Bool):=rfl
  rw[e] at h
  cases hb:Nat.beq n x with
  |true=>rw[Nat.eq_of_beq_eq_true hb];exact List.mem_cons_self ..
  |false=>rw[hb] at h;exact List.mem_cons_of_mem _ (znm h)
theorem dfk_ok:∀ f t ag,dfkL f=some (t,ag)→DfOk Tryz.prog f t ag:=by
 intro f t ag h
 unfold dfkL at h
 cases hb:memN closR f with
 |true=>
  rw[hb] at h
  cases h
  have hm:=znm hb
  simp only[closR,List.mem_cons,List.not_mem_nil,or_false] at hm
  rcases hm with rfl|rfl
  ·exact dfRoadWeak
  ·exact dfRoadBears
 |false=>
  rw[hb] at h
  cases hb2:memN closL f with
  |false=>rw[hb2] at h;cases h
  |true=>
   rw[hb2] at h
   cases h
   have hm:=znm hb2
   simp only[closL,List.mem_cons,List.not_mem_nil,or_false] at hm
   rcases hm with rfl|rfl|rfl|rfl|rfl|rfl|rfl
   ·exact dfLoadCheck
   ·exact dfLoadPlan
   ·exact dfLoadAll
   ·exact dfLoadAlone
   ·exact dfLoadNever
   ·exact dfLoadWith
   ·exact dfLoadMore
theorem zxo {d k f h:Int}{v:AV}(hv:restV d k f h=some v):v=.int .i64 (min f (IntKind.i64.wrap (h+IntKind.i64.wrap (d * k)))):=by
 unfold restV at hv
 cases hb:Q.andB (Q.fits .i64 (d * k)) (Q.fits .i64 (Q.addI h (d * k))) with
 |false=>rw[hb] at hv;cases hv
 |true=>
  rw[hb] at hv
  rw[Q.andB_eq,Bool.and_eq_true] at hb
  rw[Q.fits_wrap hb.1,← Q.addI_eq,Q.fits_wrap hb.2]
  cases hv
  rw[Q.leI_eq,Q.addI_eq]
  by_cases hle:f≤h+d * k
  ·simp[hle,Int.min_eq_left hle]
  ·simp[hle];omega
theorem zxm (args:List AV)(v:AV)(rargs:Array Value)(W:World)(L:Nat→Prop)(μ:Mu)(hv:restG args=some v)(hr:VL W L μ args rargs.toList):
  CallsIn Fence.wide 0 Tryz.prog 199 rargs W fun e W'=>(∃ w,e=.returned w∧∀ W L μ,VR W L μ v w)∧RowKit.Below W.heap.size W W':=by
 unfold restG at hv
 split at hv
 ·rename_i d s k f h l
  obtain ⟨xs,hxs⟩:∃ xs,rargs.toList=xs:=⟨_,rfl⟩
  rw[hxs] at hr
  have hl:=hr.1
  match xs,hl,hr with
  |[x0,x1,x2,x3],_,hr=>
    obtain ⟨a0,rfl,v0⟩:=vr_agg hr.head
    obtain ⟨a1,rfl,v1⟩:=vr_agg hr.tail.head
    have e2:=vr_int hr.tail.tail.head
    have e3:=vr_int hr.tail.tail.tail.head
    subst e2 e3
    have l0:=v0.1
    have l1:=v1.1
    match a0,l0,v0,a1,l1,v1 with
    |[y0],_,v0,[z0,z1,z2],_,v1=>
      have f0:=vr_int v0.head
      have f1:=vr_int v1.head
      have f2:=vr_int v1.tail.head
      have f3:=vr_int v1.tail.tail.head
      subst f0 f1 f2 f3
      have:rargs=#[.agg #[.int .i64 d],.agg #[.int .i64 s,.int .i64 k,.int .i64 f],.int .i64 h,.int .i64 l]:=Array.ext' (by rw[hxs])
      subst this
      refine (callsIn_wide.2 (zxn d s k f h l W)).mono ?_
      rintro e W' ⟨rfl,hb⟩
      exact ⟨⟨_,rfl,fun _ _ _=>by rw[zxo hv];exact .int⟩,hb⟩
 ·cases hv
theorem zpk : ∃ F, Tryz.prog.funcs[199]? = some F ∧ (F.name == "runtime.NumGoroutine")=false∧F.body.isNone=false:=⟨_,Tryz.func199,by kernel_rfl,by kernel_rfl⟩
theorem ygx (args:List AV)(v:AV)(rargs:Array Value)(W:World)(L:Nat→Prop)(μ:Mu)(hv:sinksG args=some v)(hr:VL W L μ args rargs.toList):
  CallsIn Fence.wide 0 Tryz.prog 203 rargs W fun e W'=>(∃ w,e=.returned w∧∀ W L μ,VR W L μ v w)∧RowKit.Below W.heap.size W W':=by
 unfold sinksG at hv
 split at hv
 ·cases hv
  obtain ⟨xs,hxs⟩:∃ xs,rargs.toList=xs:=⟨_,rfl⟩
  rw[hxs] at hr
  have hl:=hr.1
  match xs,hl,hr with
  |[x0],_,hr=>
    obtain ⟨a0,rfl,v0⟩:=vr_agg hr.head
    have l0:=v0.1
    match a0,l0 with
    |[],_=>
      have:rargs=#[.agg #[]]:=Array.ext' (by rw[hxs])
      subst this
      refine (callsIn_wide.2 (ycv W)).mono ?_
      rintro e W' ⟨rfl,hb⟩
      exact ⟨⟨_,rfl,fun _ _ _=>.int⟩,hb⟩
 ·cases hv
theorem yde : ∃ F, Tryz.prog.funcs[203]? = some F ∧ (F.name == "runtime.NumGoroutine")=false∧F.body.isNone=false:=⟨_,Tryz.func203,by kernel_rfl,by kernel_rfl⟩
theorem yic : ∀ f g, extL f = some g → (∃ F, Tryz.prog.funcs[f]? = some F ∧ (F.name == "runtime.NumGoroutine")=false∧F.body.isNone=false) ∧
  ∀ (args:List AV) (v:AV) (rargs:Array Value) (W:World) (L:Nat→Prop) (μ:Mu),g args=some v→VL W L μ args rargs.toList →
   CallsIn Fence.wide 0 Tryz.prog f rargs W fun e W'=>(∃ w,e=.returned w∧∀ W L μ,VR W L μ v w)∧RowKit.Below W.heap.size W W':=by
 intro f g h
 unfold extL at h
 cases hb:Nat.beq f 199 with
 |true=>
  rw[hb] at h
  cases h
  obtain rfl:=Nat.eq_of_beq_eq_true hb
  exact ⟨zpk,zxm⟩
 |false=>
  rw[hb] at h
  cases hb2:Nat.beq f 203 with
  |false=>rw[hb2] at h;cases h
  |true=>
   rw[hb2] at h
   cases h
   obtain rfl:=Nat.eq_of_beq_eq_true hb2
   exact ⟨yde,ygx⟩
end Ev
end Go.Proofs.YtfpepkbflnendaaGreat
namespace Go.Proofs.YtfpepkbflnendaaGreat
open Go Go.RowKit
namespace Ev
section
variable {P:Program} {W:World} {L:Nat→Prop} {μ:Mu} {H:List AB}
theorem zst {k:Nat}{v:AV}{news:List AV}(h:slCells k H v=some news):∃ n,slLen H v=some n:=by
 unfold slCells at h
 split at h
 ·exact ⟨_,rfl⟩
 ·exact ⟨_,rfl⟩
 ·rename_i b off n k'
  split at h
  ·split at h
   ·rename_i cs hcs
    exact ⟨n,by simp[slLen,alive,hcs]⟩
   ·cases h
  ·cases h
 ·cases h
theorem zkl (hs:Sim P W L μ H){k:Nat}(hk:0<k){v:AV}{x:Value}(hv:VR W L μ v x){es:List AV}(hes:∀ (i:Nat) (e:AV),es[i]?=some e→e.cells.length=k)(hn:∀ e∈es,∀ y∈e.cells,∃ (kd:IntKind) (n:Int),y=.int kd n)(hc:slCells k H v=some (elemCells es)):
  VR W (fun _=>False) nomu (.vs k es) x:=by
 obtain ⟨n,hl⟩:=zst hc
 obtain ⟨p,cap,rfl,h1,h2,h3⟩:=zfi hs hk hv hc hl
 obtain ⟨e1,e2⟩:=zdm hk hes
 have hnm:n=es.length:=Nat.eq_of_mul_eq_mul_right hk (by omega)
 subst hnm
 by_cases h0:es.length=0
 ·have:es=[]:=List.eq_nil_of_length_eq_zero h0
  subst this
  exact .vs0
 ·rcases h3 with h3|⟨b,o,rfl,hr⟩
  ·exact absurd h3 h0
  ·have key:∀ (i:Nat) (e:AV) (j:Nat) (y:AV),es[i]?=some e→e.cells[j]?=some y→∃ r,W.cell? ⟨b,o+i * k+j,none⟩=some r∧VR W (fun _=>False) nomu y r:=by
    intro i e j y he hy
    have hjk:j<k:=by have:=(List.getElem?_eq_some_iff.1 hy).1;rw[hes i e he] at this;exact this
    have hi:=(List.getElem?_eq_some_iff.1 he).1
    have hq:i * k+j<(elemCells es).length:=by
     rw[e1]
     have:(i+1) * k≤es.length * k:=Nat.mul_le_mul_right k hi
     rw[Nat.add_mul,Nat.one_mul] at this
     omega
    obtain ⟨e',g1,g2⟩:=e2 _ _ (List.getElem?_eq_getElem hq)
    have d1:(i * k+j) / k=i:=by rw[Nat.mul_comm,Nat.mul_add_div hk,Nat.div_eq_of_lt hjk,Nat.add_zero]
    have d2:(i * k+j) % k=j:=by rw[Nat.mul_comm,Nat.mul_add_mod,Nat.mod_eq_of_lt hjk]
    rw[d1,he] at g1
    cases g1
    rw[d2,hy] at g2
    obtain ⟨r,q1,q2⟩:=hr _ _ (List.getElem?_eq_getElem hq)
    rw[← Option.some.inj g2] at q2
    obtain ⟨kd,m,rfl⟩:=hn e (List.mem_of_getElem? he) y (List.mem_of_getElem? hy)
    refine ⟨r,by rw[Nat.add_assoc];exact q1,?_⟩
    cases q2 with
    |dead h=>simp[headRef] at h
    |int=>exact .int
   refine .vs (fun i j=>(W.cell? ⟨b,o+i * k+j,none⟩).getD undef) h2 hes (fun i e j y he hy=>⟨id,?_⟩) fun i e j y he hy=>?_
   ·obtain ⟨r,q1,_⟩:=key i e j y he hy
    rw[q1];rfl
   ·obtain ⟨r,q1,q2⟩:=key i e j y he hy
    rw[q1];exact q2
theorem zxf:Sim P W (fun _=>False) nomu []:={ live:=fun i B h=>(by cases h),dead:=fun i b h _=>(by cases h),out:=fun _ _=>rfl,inj:=fun i j B h _=>(by cases h),lt:=fun b h=>h.elim }
theorem zrz {C:Cfg}(hT:TblOk P C){m f:Nat}{args:List AV}{x:CRes}{H':List AB}{tc:List Nat}(h:Ev.call C m (.fn (.func f) [] []) args []=some (x,H',tc))(hG:Globs C W (fun _=>False)){rargs:Array Value}(hv:VL W (fun _=>False) nomu args rargs.toList):
  CallsIn Fence.wide 0 P f rargs W fun e W'=>(∃ L' μ',CRel W' L' μ' x e∧Sim P W' L' μ' H'∧∀ b,L' b→W.heap.size≤b)∧Below W.heap.size W W':=by
 have hok:=zmq hT m
 obtain ⟨r,W1,h1,h2⟩:=hok.sound (tc0:=[]) h (Hp.start (P:=P) zxf) hG
  (rf:=.func (.func f) #[] #[]) (rargs:=rargs) (.fn (rf:=[]) (rc:=[]) (by intro l;simp) rfl (by intro i x r h;simp at h) rfl (by intro i x r h;simp at h)) hv
 have e:(do let d ← Deferred.ofValue (.func (.func f) #[] #[]) rargs;invoke d.target d.args:Sem Next).run P W=.ok (.enter f rargs) W:=by
  simp only[Deferred.ofValue,Sem.run_bind,Sem.run_pure,Result.andThen,invoke]
  have:=hok.fn h rargs W
  simpa using this
 rw[e] at h1
 cases h1
 refine CallsIn.mono h2 ?_
 rintro en W' ⟨L',μ',c1,c2,_⟩
 refine ⟨⟨L',μ',c1,c2.sim,fun b hb=>?_⟩,c2.env.1,c2.env.2.1,c2.env.2.2,c2.size,fun k hk=>c2.same k hk fun i _ hi=>by cases hi⟩
 rcases c2.new b hb with h|h
 ·exact h.elim
 ·exact h
def Bare:AV→Prop
 |.int _ _=>True
 |.bool _=>True
 |.agg cs=>∀ x∈cs,(∃ k n,x=.int k n)∨∃ b,x=.bool b
 |.tup cs=>∀ x∈cs,(∃ k n,x=.int k n)∨(∃ b,x=.bool b)∨∃ l,x=.agg l∧∀ y∈l,∃ k n,y=.int k n
 |_=>False
theorem zek {W':World}{L':Nat→Prop}{μ':Mu}{x:AV}{r:Value}(hx:(∃ k n,x=.int k n)∨∃ b,x=.bool b)(h:VR W L μ x r):VR W' L' μ' x r:=by
 rcases hx with ⟨k,n,rfl⟩|⟨b,rfl⟩
 ·cases h with
  |dead h=>simp[headRef] at h
  |int=>exact .int
 ·cases h with
  |dead h=>simp[headRef] at h
  |bool=>exact .bool
theorem zzh {v:AV}(hb:Bare v){W':World}{L':Nat→Prop}{μ':Mu}{r:Value}(h:VR W L μ v r):VR W' L' μ' v r:=by
 cases v with
 |int k n=>exact zek (.inl ⟨k,n,rfl⟩) h
 |bool b=>exact zek (.inr ⟨b,rfl⟩) h
 |agg cs=>
  cases h with
  |dead h=>simp[headRef] at h
  |agg h1 h2=>exact .agg h1 fun i x r hx hr=>zek (hb x (List.mem_of_getElem? hx)) (h2 i x r hx hr)
 |tup cs=>
  cases h with
  |dead h=>simp[headRef] at h
  |tup h1 h2=>
   refine .tup h1 fun i x r hx hr=>?_
   rcases hb x (List.mem_of_getElem? hx) with h|h|⟨l,rfl,hl⟩
   ·exact zek (.inl h) (h2 i x r hx hr)
   ·exact zek (.inr h) (h2 i x r hx hr)
   ·have:=h2 i _ r hx hr
    cases this with
    |dead h=>simp[headRef] at h
    |agg g1 g2=>exact .agg g1 fun i x r hx hr=>zek (.inl (hl x (List.mem_of_getElem? hx))) (g2 i x r hx hr)
 |_=>exact hb.elim
theorem zjm {C:Cfg}(hT:TblOk P C){m f:Nat}{args:List AV}{v:AV}{H':List AB}{tc:List Nat}(h:Ev.call C m (.fn (.func f) [] []) args []=some (.ret v,H',tc))(hb:Bare v)(hG:Globs C W (fun _=>False)){rargs:Array Value}(hv:VL W (fun _=>False) nomu args rargs.toList):
  CallsIn Fence.wide 0 P f rargs W fun e W'=>(∃ w,e=.returned w∧∀ W L μ,VR W L μ v w)∧Below W.heap.size W W':=by
 refine (zrz hT h hG hv).mono ?_
 rintro en W' ⟨⟨L',μ',c1,_⟩,c2⟩
 cases en<;>simp only[CRel] at c1
 exact ⟨⟨_,rfl,fun _ _ _=>zzh hb c1⟩,c2⟩
theorem yjr {W':World}{L':Nat→Prop}{μ':Mu}{H':List AB}{b n:Nat}{cs:List AV}{w:Value}(c1:VR W' L' μ' (.sl b 0 n 1) w)(hs:Sim P W' L' μ' H')(hnew:∀ b,L' b→W.heap.size≤b)(hb:H'[b]?=some (.cells cs))(hn:n=cs.length)(hcs:∀ y∈cs,∃ (kd:IntKind) (n:Int),y=.int kd n)(hL:∀ b,L b→b<W.heap.size):VR W' L nomu (.vs 1 cs) w:=by
 cases c1 with
 |@dead _ _ _ b' h1 h2 _=>
  simp[headRef] at h1
  subst h1
  cases hs.dead _ _ h2 hb
 |@sl _ _ _ _ _ B cap rs t hm h2 h3 h4=>
  obtain ⟨l1,_,blk,o,e1,e2,e3⟩:=hs.live _ _ hm
  rw[hb] at e1
  cases e1
  cases e3 with
  |@cells _ rs' t' hsz hc=>
   have hB:¬ L B:=fun h=>by have:=hL B h;have:=hnew B l1;omega
   have hlen:∀ (e:AV),e∈cs→e.cells=[e]:=fun e he=>by obtain ⟨k,n,rfl⟩:=hcs e he;rfl
   subst hn
   have get:∀ (i:Nat) (e:AV) (j:Nat) (x:AV),cs[i]?=some e→e.cells[j]?=some x→j=0∧x=e∧∃ r,W'.cell? ⟨B,0+i * 1+j,none⟩=some r∧VR W' L nomu x r:=by
    intro i e j x he hx
    have hm:=List.mem_of_getElem? he
    rw[hlen e hm] at hx
    have hj:j=0:=by
     have:=(List.getElem?_eq_some_iff.1 hx).1
     simpa using this
    subst hj
    simp only[List.getElem?_cons_zero,Option.some.injEq] at hx
    subst hx
    have hi:=(List.getElem?_eq_some_iff.1 he).1
    refine ⟨rfl,rfl,rs'[i]'(by omega),?_,zek (.inl (hcs _ hm)) (hc i _ _ he (Array.getElem?_eq_getElem (by omega)))⟩
    rw[show 0+i * 1+0=i by omega]
    have hsz':i<rs'.size:=by omega
    simp[World.cell?,e2,hsz']
   refine .vs (fun i j=>(W'.cell? ⟨B,0+i * 1+j,none⟩).getD undef) h2 (fun i e he=>by rw[hlen e (List.mem_of_getElem? he)];rfl) (fun i e j x he hx=>⟨hB,?_⟩) fun i e j x he hx=>?_
   ·obtain ⟨_,_,r,q1,_⟩:=get i e j x he hx
    rw[q1];rfl
   ·obtain ⟨_,_,r,q1,q2⟩:=get i e j x he hx
    rw[q1];exact q2
end
end Ev
end Go.Proofs.YtfpepkbflnendaaGreat
namespace Go.Proofs.YtfpepkbflnendaaGreat
open Go Go.Proofs Go.RowKit
namespace Ev
namespace Ro
open K
set_option maxRecDepth 100000
set_option maxHeartbeats 4000000
theorem zbh (W:World)(L:Nat→Prop)(C:Cfg):Globs C W L:=fun g cs h=>by cases h
noncomputable def cfgK:Cfg where
 fns:=FT.find fnTree
 glob:=fun _=>none
 dfk:=dfkL
 ext:=extL
 exth:=fun _=>none
 calm:=true
 whole:=fun _=>true
theorem known (f : Nat) (h : ∃ F, Tryz.prog.funcs[f]? = some F ∧ (F.name == "runtime.NumGoroutine")=false∧∃ af:AFunc,compFn Tryz.prog F=some af.strip):∃ F,Tryz.prog.funcs[f]?=some F∧(F.name== "runtime.NumGoroutine")=false∧F.body.isNone=false:=by
 obtain ⟨F,f1,f2,af,f3⟩:=h
 obtain ⟨c,g1,_⟩:=zhh f3
 exact ⟨F,f1,f2,by rw[g1];rfl⟩
theorem tblK:TblOk Tryz.prog cfgK:=⟨fun f fn h=>FT.find_all zrw h,yic,fun _ _ h=>(by cases h),dfk_ok⟩
theorem has_of {C:Cfg}{f:Nat}{af:AFunc}(h1:C.ext f=none)(h2:C.exth f=none)(h3:C.fns f=some af)(h4:C.whole f=true):Has C f af:=⟨h1,h2,h3,h4⟩
theorem znu {n:Int}(h0:-1000000000≤n)(h1:n≤1000000000):Q.fits .i64 n=true:=by
 cases n with
 |ofNat m=>
  have h:m≤9223372036854775807:=by simp only[Int.ofNat_eq_natCast] at h1;omega
  exact Nat.ble_eq_true_of_le h
 |negSucc m=>
  have h:Nat.succ m≤9223372036854775808:=by omega
  exact Nat.ble_eq_true_of_le h
theorem rest_k (n:Nat)(H:List AB)(d:Int)(p:Rd.Tr)(hp:TrOk p)(h l:Int)(h0:-1000000≤h)(h1:h≤1000000)(d0:0≤d)(d1:d≤1000):Ev.call cfgK (n+1) (.fn (.func 199) [] []) [.agg [.int .i64 d],.agg [.int .i64 p.stiff,.int .i64 p.rise,.int .i64 p.full],.int .i64 h,.int .i64 l] H=some (.ret (.int .i64 (Rd.rested p h d)),H,[]):=by
 show enter cfgK (Ev.call cfgK n) 199 ([]++[.agg [.int .i64 d],.agg [.int .i64 p.stiff,.int .i64 p.rise,.int .i64 p.full],.int .i64 h,.int .i64 l]++[]) H=_
 unfold enter
 have e1:cfgK.ext 199=some restG:=rfl
 rw[e1]
 have hm0:0≤d * p.rise:=Int.mul_nonneg d0 hp.r1
 have hm1:d * p.rise≤5000:=by
  have:=Int.mul_le_mul d1 hp.r2 hp.r1 (by decide)
  omega
 have e2:restG ([]++[.agg [.int .i64 d],.agg [.int .i64 p.stiff,.int .i64 p.rise,.int .i64 p.full],.int .i64 h,.int .i64 l]++[])=some (.int .i64 (Rd.rested p h d)):=by
  show restV d p.rise p.full h=_
  unfold restV
  rw[Q.addI_eq,znu (by omega) (by omega),znu (by omega) (by omega)]
  show some (AV.int .i64 (Bool.rec (h+d * p.rise) p.full (Q.leI p.full (h+d * p.rise))))=_
  rw[Q.leI_eq]
  unfold Rd.rested
  by_cases hle:p.full≤h+d * p.rise
  ·rw[decide_eq_true hle,Int.min_eq_left hle]
  ·rw[decide_eq_false hle,Int.min_eq_right (by omega)]
 simp only[e2,Option.map_some]
theorem knowsK:Knows cfgK where
 calm:=rfl
 wh:=fun _=>rfl
 within:=has_of rfl rfl (by kernel_rfl) rfl
 isLoad:=has_of rfl rfl (by kernel_rfl) rfl
 always:=has_of rfl rfl (by kernel_rfl) rfl
 isPart:=has_of rfl rfl (by kernel_rfl) rfl
 every:=has_of rfl rfl (by kernel_rfl) rfl
 isSpan:=has_of rfl rfl (by kernel_rfl) rfl
 must:=has_of rfl rfl (by kernel_rfl) rfl
 sunk:=has_of rfl rfl (by kernel_rfl) rfl
 rested:=has_of rfl rfl (by kernel_rfl) rfl
 look:=has_of rfl rfl (by kernel_rfl) rfl
 pass:=has_of rfl rfl (by kernel_rfl) rfl
 rest:=rest_k
 height:=has_of rfl rfl (by kernel_rfl) rfl
 first:=has_of rfl rfl (by kernel_rfl) rfl
 parts:=has_of rfl rfl (by kernel_rfl) rfl
 parts1:=has_of rfl rfl (by kernel_rfl) rfl
 ways:=has_of rfl rfl (by kernel_rfl) rfl
 all:=has_of rfl rfl (by kernel_rfl) rfl
 all1:=has_of rfl rfl (by kernel_rfl) rfl
 all11:=has_of rfl rfl (by kernel_rfl) rfl
 told:=has_of rfl rfl (by kernel_rfl) rfl
 told1:=has_of rfl rfl (by kernel_rfl) rfl
 can:=has_of rfl rfl (by kernel_rfl) rfl
 known:=has_of rfl rfl (by kernel_rfl) rfl
 joined:=has_of rfl rfl (by kernel_rfl) rfl
 span:=has_of rfl rfl (by kernel_rfl) rfl
 heights:=has_of rfl rfl (by kernel_rfl) rfl
 heights1:=has_of rfl rfl (by kernel_rfl) rfl
 left:=has_of rfl rfl (by kernel_rfl) rfl
 index:=has_of rfl rfl (by kernel_rfl) rfl
 cont:=has_of rfl rfl (by kernel_rfl) rfl
 sure:=has_of rfl rfl (by kernel_rfl) rfl
 sure1:=has_of rfl rfl (by kernel_rfl) rfl
 may:=has_of rfl rfl (by kernel_rfl) rfl
 may1:=has_of rfl rfl (by kernel_rfl) rfl
 open_ := has_of rfl rfl (by kernel_rfl) rfl
 bears2:=has_of rfl rfl (by kernel_rfl) rfl
 eBears:=has_of rfl rfl (by kernel_rfl) rfl
 eWeak:=has_of rfl rfl (by kernel_rfl) rfl
 dfBears:=rfl
 dfWeak:=rfl
def intsOf:List AV→Option (List Int)
 |[]=>some []
 |.int .i64 n::l=>if -9223372036854775808≤n∧n≤9223372036854775807 then (intsOf l).map (n::·) else none
 |_=>none
theorem zko:∀ {l:List AV} {ns:List Int},intsOf l=some ns→l=ns.map (AV.int .i64)∧∀ n∈ns,-9223372036854775808≤n∧n≤9223372036854775807
 |[],ns,h=>by cases h;exact ⟨rfl,by simp⟩
 |v::l,ns,h=>by
  unfold intsOf at h
  split at h
  ·rename_i e;cases e
  ·rename_i n l' e
   obtain ⟨rfl,rfl⟩:=List.cons.inj e
   split at h
   ·rename_i hb
    obtain ⟨ms,h1,rfl⟩:=Option.map_eq_some_iff.1 h
    obtain ⟨h2,h3⟩:=zko h1
    refine ⟨by rw[List.map_cons,← h2],fun m hm=>?_⟩
    rcases List.mem_cons.1 hm with rfl|hm
    ·exact hb
    ·exact h3 m hm
   ·cases h
  ·cases h
def gRd (spec:Rd.Road→List Int→Option AV)(args:List AV)(H:List AB):Option AV:=
 match args with
 |v::rest=>(roadOf H v).bind fun r=>(intsOf rest).bind fun ns=>spec r ns
 |[]=>none
theorem rd_arg {W:World}{L:Nat→Prop}{μ:Mu}{H:List AB}(hs:Sim Tryz.prog W L μ H){v:AV}{x:Value}{r:Rd.Road}(hc:roadOf H v=some r)(hv:VR W L μ v x):VR W (fun _=>False) nomu (.agg (roadCs r)) x:=by
 obtain ⟨pv,ev,rfl,h1,h2,_,_⟩:=zhu hc
 cases hv with
 |dead h=>simp[headRef] at h
 |@agg _ _ rs hl hr=>
  match rs,hl with
  |[r0,r1],_=>
    have a0:=hr 0 _ _ rfl rfl
    have a1:=hr 1 _ _ rfl rfl
    refine .agg rfl fun i x r hx hr'=>?_
    match i,hx,hr' with
    |0,hx,hr'=>
     cases hx;cases hr'
     refine zkl hs (by decide) a0 (fun i e he=>?_) (fun e he y hy=>?_) (by rw[zob];exact h1)
     ·rw[List.getElem?_map] at he
      obtain ⟨p,_,rfl⟩:=Option.map_eq_some_iff.1 he
      rfl
     ·obtain ⟨p,_,rfl⟩:=List.mem_map.1 he
      simp only[ptE,AV.cells,List.mem_cons,List.not_mem_nil,or_false] at hy
      rcases hy with rfl|rfl|rfl|rfl|rfl|rfl|rfl<;>exact ⟨_,_,rfl⟩
    |1,hx,hr'=>
     cases hx;cases hr'
     refine zkl hs (by decide) a1 (fun i e he=>?_) (fun e he y hy=>?_) (by rw[zoc];exact h2)
     ·rw[List.getElem?_map] at he
      obtain ⟨p,_,rfl⟩:=Option.map_eq_some_iff.1 he
      rfl
     ·obtain ⟨p,_,rfl⟩:=List.mem_map.1 he
      simp only[evE,AV.cells,List.mem_cons,List.not_mem_nil,or_false] at hy
      rcases hy with rfl|rfl|rfl|rfl|rfl|rfl|rfl<;>exact ⟨_,_,rfl⟩
    |i+2,hx,hr'=>simp[roadCs] at hx
theorem grd_ok {spec : Rd.Road → List Int → Option AV} {f : Nat} (hk : ∃ F, Tryz.prog.funcs[f]? = some F ∧ (F.name == "runtime.NumGoroutine")=false∧∃ af:AFunc,compFn Tryz.prog F=some af.strip)
  (hf:∀ (r:Rd.Road) (ns:List Int) (v:AV),r.parts.length≤40→r.events.length≤50→(∀ n∈ns,-9223372036854775808≤n∧n≤9223372036854775807)→spec r ns=some v→Bare v∧∃ C:Cfg,TblOk Tryz.prog C∧(∀ W L,Globs C W L)∧∃ m H' tc,Ev.call C m (.fn (.func f) [] []) (.agg (roadCs r)::ns.map (AV.int .i64)) []=some (.ret v,H',tc)):
  (∃ F, Tryz.prog.funcs[f]? = some F ∧ (F.name == "runtime.NumGoroutine")=false∧F.body.isNone=false)∧∀ (args:List AV) (H:List AB) (v:AV) (rargs:Array Value) (W:World) (L:Nat→Prop) (μ:Mu),gRd spec args H=some v→VL W L μ args rargs.toList→Sim Tryz.prog W L μ H →
   CallsIn Fence.wide 0 Tryz.prog f rargs W fun e W'=>(∃ w,e=.returned w∧VR W' L nomu v w)∧Below W.heap.size W W':=by
 refine ⟨known f hk,fun args H v rargs W L μ h hv hs=>?_⟩
 unfold gRd at h
 split at h
 ·rename_i u rest
  obtain ⟨r,h1,h2⟩:=Option.bind_eq_some_iff.1 h
  obtain ⟨ns,h3,h4⟩:=Option.bind_eq_some_iff.1 h2
  obtain ⟨rfl,hns⟩:=zko h3
  obtain ⟨_,_,_,_,_,b1,b2⟩:=zhu h1
  obtain ⟨hb,C,hT,hG,m,H',tc,hcall⟩:=hf r ns v b1 b2 hns h4
  refine (zjm hT hcall hb (hG _ _) ⟨hv.1,fun i x r hx hr=>?_⟩).mono fun e W' ⟨⟨w,h1,h2⟩,h3⟩=>⟨⟨w,h1,h2 _ _ _⟩,h3⟩
  match i,hx with
  |0,hx=>cases hx;exact rd_arg hs h1 (hv.2 0 _ r rfl hr)
  |i+1,hx=>
   rw[List.getElem?_cons_succ,List.getElem?_map] at hx
   obtain ⟨n,h5,rfl⟩:=Option.map_eq_some_iff.1 hx
   exact zek (.inl ⟨_,_,rfl⟩) (hv.2 (i+1) (.int .i64 n) r (by rw[List.getElem?_cons_succ,List.getElem?_map,h5];rfl) hr)
 ·cases h
def sBears (r:Rd.Road):List Int→Option AV|[l]=>some (numRV r (Rd.isLoad l) (Rd.bearsR r l))|_=>none
def sWeak (r:Rd.Road):List Int→Option AV|[]=>some (numRV r true (Rd.weakR r))|_=>none
noncomputable def exthL0 (f:Nat):Option (List AV→List AB→Option AV):=
 if f=36 then some (gRd sBears) else if f=112 then some (gRd sWeak) else none
theorem zef (a e:Int):Bare (.tup [.int .i64 a,.int .i64 e]):=by
 intro x hx
 simp only[List.mem_cons,List.not_mem_nil,or_false] at hx
 rcases hx with rfl|rfl<;>exact .inl ⟨_,_,rfl⟩
theorem zrk (a b e:Int):Bare (.tup [.int .i64 a,.int .i64 b,.int .i64 e]):=by
 intro x hx
 simp only[List.mem_cons,List.not_mem_nil,or_false] at hx
 rcases hx with rfl|rfl|rfl<;>exact .inl ⟨_,_,rfl⟩
theorem zny (f : Nat) (g : List AV → List AB → Option AV) (h : exthL0 f = some g) : (∃ F, Tryz.prog.funcs[f]? = some F ∧ (F.name == "runtime.NumGoroutine")=false∧F.body.isNone=false)∧∀ (args:List AV) (H:List AB) (v:AV) (rargs:Array Value) (W:World) (L:Nat→Prop) (μ:Mu),g args H=some v→VL W L μ args rargs.toList→Sim Tryz.prog W L μ H→Globs cfgK W L →
   CallsIn Fence.wide 0 Tryz.prog f rargs W fun e W'=>(∃ w,e=.returned w∧VR W' L nomu v w)∧Below W.heap.size W W':=by
 have kn : ∀ {f : Nat} {af : AFunc}, (∃ F, Tryz.prog.funcs[f]? = some F ∧ (F.name == "runtime.NumGoroutine")=false∧compFn Tryz.prog F=some af.strip)→∃ F,Tryz.prog.funcs[f]?=some F∧(F.name== "runtime.NumGoroutine")=false∧∃ af:AFunc,compFn Tryz.prog F=some af.strip:=fun ⟨F,h1,h2,h3⟩=>⟨F,h1,h2,_,h3⟩
 unfold exthL0 at h
 split at h
 ·rename_i hf;subst hf;cases h
  obtain ⟨k1,k2⟩:=grd_ok (spec:=sBears) (kn is36) fun r ns v b1 b2 hr hs=>by
   unfold sBears at hs
   split at hs<;>cases hs
   exact ⟨zef _ _,cfgK,tblK,fun _ _=>zbh _ _ _,0+r.events.length+18,_,_,bearsE knowsK ⟨by omega,by omega⟩ 0 _⟩
  exact ⟨k1,fun args H v rargs W L μ a b c _=>k2 args H v rargs W L μ a b c⟩
 split at h
 ·rename_i hf;subst hf;cases h
  obtain ⟨k1,k2⟩:=grd_ok (spec:=sWeak) (kn is112) fun r ns v b1 b2 hr hs=>by
   unfold sWeak at hs
   split at hs<;>cases hs
   exact ⟨zef _ _,cfgK,tblK,fun _ _=>zbh _ _ _,0+r.events.length+18,_,_,weakE knowsK ⟨by omega,by omega⟩ 0⟩
  exact ⟨k1,fun args H v rargs W L μ a b c _=>k2 args H v rargs W L μ a b c⟩
 ·cases h
noncomputable def cfgM:Cfg where
 fns:=FT.find fnTree
 glob:=fun _=>none
 dfk:=dfkL
 ext:=extL
 exth:=exthL0
 calm:=true
 whole:=fun _=>true
theorem tblM : TblOk Tryz.prog cfgM := ⟨fun f fn h => FT.find_all zrw h, yic, fun f g h => by
 obtain ⟨k1,k2⟩:=zny f g h
 exact ⟨k1,fun args H v rargs W L μ a b c d=>k2 args H v rargs W L μ a b c (zbh _ _ _)⟩,dfk_ok⟩
theorem ybr:∀ {ns:List Int},(∀ n∈ns,i64n n)→intsOf (ns.map (AV.int .i64))=some ns
 |[],_=>rfl
 |a::l,h=>by
  have h1:=h a (by simp)
  have h2:=ybr (ns:=l) fun n hn=>h n (by simp[hn])
  unfold i64n at h1
  simp[intsOf,h2,h1]
theorem ybf {C:Cfg}{f:Nat}{g:List AV→List AB→Option AV}(h1:C.ext f=none)(h2:C.exth f=some g)(n:Nat){H:List AB}{args:List AV}{w:AV}(hw:g args H=some w):Ev.call C (n+1) (.fn (.func f) [] []) args H=some (.ret w,H,[]):=by
 show enter C (Ev.call C n) f ([]++args++[]) H=_
 unfold enter
 rw[h1,h2]
 simp only[List.nil_append,List.append_nil,hw,Option.map_some]
theorem gRd_of {spec:Rd.Road→List Int→Option AV}{H:List AB}{v:AV}{r:Rd.Road}(hc:roadOf H v=some r){ns:List Int}(hn:∀ n∈ns,i64n n){w:AV}(hs:spec r ns=some w):gRd spec (v::ns.map (AV.int .i64)) H=some w:=by
 simp[gRd,hc,ybr hn,hs]
theorem lknowsM:LKnows cfgM where
 calm:=rfl
 wh:=fun _=>rfl
 within:=has_of rfl rfl (by kernel_rfl) rfl
 must:=has_of rfl rfl (by kernel_rfl) rfl
 isDay:=has_of rfl rfl (by kernel_rfl) rfl
 isCart:=has_of rfl rfl (by kernel_rfl) rfl
 isPlan:=has_of rfl rfl (by kernel_rfl) rfl
 isPlan1:=has_of rfl rfl (by kernel_rfl) rfl
 cof:=has_of rfl rfl (by kernel_rfl) rfl
 ixf:=has_of rfl rfl (by kernel_rfl) rfl
 late:=has_of rfl rfl (by kernel_rfl) rfl
 lnum:=has_of rfl rfl (by kernel_rfl) rfl
 sinks:=has_of rfl rfl (by kernel_rfl) rfl
 snum n H:=by
  show enter cfgM (Ev.call cfgM n) 203 ([]++[.agg []]++[]) H=_
  unfold enter
  have e1:cfgM.ext 203=some sinksG:=by kernel_rfl
  rw[e1]
  rfl
 rules:=has_of rfl rfl (by kernel_rfl) rfl
 bears:=has_of rfl rfl (by kernel_rfl) rfl
 ahead:=has_of rfl rfl (by kernel_rfl) rfl
 ahead1:=has_of rfl rfl (by kernel_rfl) rfl
 order:=has_of rfl rfl (by kernel_rfl) rfl
 order1:=has_of rfl rfl (by kernel_rfl) rfl
 broken:=has_of rfl rfl (by kernel_rfl) rfl
 right:=has_of rfl rfl (by kernel_rfl) rfl
 plans:=has_of rfl rfl (by kernel_rfl) rfl
 plans1:=has_of rfl rfl (by kernel_rfl) rfl
 plans11:=has_of rfl rfl (by kernel_rfl) rfl
 cloneP:=has_of rfl rfl (by kernel_rfl) rfl
 cloneC:=has_of rfl rfl (by kernel_rfl) rfl
 sum:=has_of rfl rfl (by kernel_rfl) rfl
 goes:=has_of rfl rfl (by kernel_rfl) rfl
 carries:=has_of rfl rfl (by kernel_rfl) rfl
 index:=has_of rfl rfl (by kernel_rfl) rfl
 has:=has_of rfl rfl (by kernel_rfl) rfl
 max:=has_of rfl rfl (by kernel_rfl) rfl
 most:=has_of rfl rfl (by kernel_rfl) rfl
 soon:=has_of rfl rfl (by kernel_rfl) rfl
 gone:=has_of rfl rfl (by kernel_rfl) rfl
 mul:=has_of rfl rfl (by kernel_rfl) rfl
 mul64:=has_of rfl rfl (by kernel_rfl) rfl
 repeat_:=has_of rfl rfl (by kernel_rfl) rfl
 open_ := has_of rfl rfl (by kernel_rfl) rfl
 always:=has_of rfl rfl (by kernel_rfl) rfl
 check2:=has_of rfl rfl (by kernel_rfl) rfl
 alone2:=has_of rfl rfl (by kernel_rfl) rfl
 never2:=has_of rfl rfl (by kernel_rfl) rfl
 with2:=has_of rfl rfl (by kernel_rfl) rfl
 with3:=has_of rfl rfl (by kernel_rfl) rfl
 more2:=has_of rfl rfl (by kernel_rfl) rfl
 eCheck:=has_of rfl rfl (by kernel_rfl) rfl
 ePlan:=has_of rfl rfl (by kernel_rfl) rfl
 eAll:=has_of rfl rfl (by kernel_rfl) rfl
 eAlone:=has_of rfl rfl (by kernel_rfl) rfl
 eNever:=has_of rfl rfl (by kernel_rfl) rfl
 eWith:=has_of rfl rfl (by kernel_rfl) rfl
 eMore:=has_of rfl rfl (by kernel_rfl) rfl
 dfCheck:=by kernel_rfl
 dfPlan:=by kernel_rfl
 dfAll:=by kernel_rfl
 dfAlone:=by kernel_rfl
 dfNever:=by kernel_rfl
 dfWith:=by kernel_rfl
 dfMore:=by kernel_rfl
 rbears n H v r hc m h0 h1:=ybf (g:=gRd sBears) (by kernel_rfl) rfl n (gRd_of (spec:=sBears) hc (ns:=[m]) (by intro x hx;obtain rfl:=List.mem_singleton.1 hx;exact ⟨h0,h1⟩) rfl)
 rweak n H v r hc:=ybf (g:=gRd sWeak) (by kernel_rfl) rfl n (gRd_of (spec:=sWeak) hc (ns:=[]) (by simp) rfl)
theorem yix {es:List AV}(h:∀ e∈es,∃ n,e=.int .i64 n):(∀ (i:Nat) (e:AV),es[i]?=some e→e.cells.length=1)∧∀ e∈es,∀ y∈e.cells,∃ (kd:IntKind) (n:Int),y=.int kd n:=by
 refine ⟨fun i e he=>?_,fun e he y hy=>?_⟩
 ·obtain ⟨n,rfl⟩:=h e (List.mem_of_getElem? he);rfl
 ·obtain ⟨n,rfl⟩:=h e he
  simp only[AV.cells,List.mem_cons,List.not_mem_nil,or_false] at hy
  exact ⟨_,_,hy⟩
theorem yef (p:List Int):∀ e∈ints p,∃ n,e=.int .i64 n:=fun e he=>by
 obtain ⟨n,_,rfl⟩:=List.mem_map.1 he
 exact ⟨n,rfl⟩
theorem pl_arg {W:World}{L:Nat→Prop}{μ:Mu}{H:List AB}(hs:Sim Tryz.prog W L μ H){v:AV}{x:Value}{p:List Int}(hc:plnOf H v=some p)(hv:VR W L μ v x):VR W (fun _=>False) nomu (.vs 1 (ints p)) x:=by
 obtain ⟨h1,_⟩:=ycx hc
 obtain ⟨h2,h3⟩:=yix (yef p)
 refine zkl hs (by decide) hv h2 h3 ?_
 rw[yda]
 exact h1
theorem ld_arg {W:World}{L:Nat→Prop}{μ:Mu}{H:List AB}(hs:Sim Tryz.prog W L μ H){v:AV}{x:Value}{l:Ld.Lo}(hc:loadOf H v=some l)(hv:VR W L μ v x):VR W (fun _=>False) nomu (.agg (loadCs l)) x:=by
 obtain ⟨pv,ev,cv,rfl,h1,h2,_⟩:=ybu hc
 obtain ⟨pv',ev',he,g1,g2,_,_⟩:=zhu h1
 cases he
 cases hv with
 |dead h=>simp[headRef] at h
 |@agg _ _ rs hl hr=>
  match rs,hl with
  |[r0,r1,r2,r3],_=>
    have a0:=hr 0 _ _ rfl rfl
    have a1:=hr 1 _ _ rfl rfl
    have a2:=hr 2 _ _ rfl rfl
    have a3:=hr 3 _ _ rfl rfl
    refine .agg rfl fun i x r hx hr'=>?_
    match i,hx,hr' with
    |0,hx,hr'=>
     cases hx;cases hr'
     refine zkl hs (by decide) a0 (fun i e he=>?_) (fun e he y hy=>?_) (by rw[zob];exact g1)
     ·rw[List.getElem?_map] at he
      obtain ⟨p,_,rfl⟩:=Option.map_eq_some_iff.1 he
      rfl
     ·obtain ⟨p,_,rfl⟩:=List.mem_map.1 he
      simp only[ptE,AV.cells,List.mem_cons,List.not_mem_nil,or_false] at hy
      rcases hy with rfl|rfl|rfl|rfl|rfl|rfl|rfl<;>exact ⟨_,_,rfl⟩
    |1,hx,hr'=>
     cases hx;cases hr'
     refine zkl hs (by decide) a1 (fun i e he=>?_) (fun e he y hy=>?_) (by rw[zoc];exact g2)
     ·rw[List.getElem?_map] at he
      obtain ⟨p,_,rfl⟩:=Option.map_eq_some_iff.1 he
      rfl
     ·obtain ⟨p,_,rfl⟩:=List.mem_map.1 he
      simp only[evE,AV.cells,List.mem_cons,List.not_mem_nil,or_false] at hy
      rcases hy with rfl|rfl|rfl|rfl|rfl|rfl|rfl<;>exact ⟨_,_,rfl⟩
    |2,hx,hr'=>
     cases hx;cases hr'
     exact zek (.inl ⟨_,_,rfl⟩) a2
    |3,hx,hr'=>
     cases hx;cases hr'
     refine zkl hs (by decide) a3 (fun i e he=>?_) (fun e he y hy=>?_) (by rw[ydp];exact h2)
     ·rw[List.getElem?_map] at he
      obtain ⟨p,_,rfl⟩:=Option.map_eq_some_iff.1 he
      rfl
     ·obtain ⟨p,_,rfl⟩:=List.mem_map.1 he
      simp only[cE,AV.cells,List.mem_cons,List.not_mem_nil,or_false] at hy
      rcases hy with rfl|rfl<;>exact ⟨_,_,rfl⟩
    |i+4,hx,hr'=>simp[loadCs] at hx
def gLd (spec:Ld.Lo→List Int→Option AV)(args:List AV)(H:List AB):Option AV:=
 match args with
 |v::rest=>(loadOf H v).bind fun l=>(intsOf rest).bind fun ns=>spec l ns
 |[]=>none
def gLp (spec:Ld.Lo→List Int→List Int→Option AV)(args:List AV)(H:List AB):Option AV:=
 match args with
 |v::pv::rest=>(loadOf H v).bind fun l=>(plnOf H pv).bind fun p=>(intsOf rest).bind fun ns=>spec l p ns
 |_=>none
structure Big (l:Ld.Lo):Prop where
 p:l.road.parts.length≤40
 e:l.road.events.length≤50
 c:l.carts.length≤50
theorem big_of {H:List AB}{v:AV}{l:Ld.Lo}(h:loadOf H v=some l):Big l:=by
 obtain ⟨_,_,_,_,h1,_,h3⟩:=ybu h
 obtain ⟨_,_,_,_,_,b1,b2⟩:=zhu h1
 exact ⟨b1,b2,h3⟩
theorem gld_ok {spec : Ld.Lo → List Int → Option AV} {f : Nat} (hk : ∃ F, Tryz.prog.funcs[f]? = some F ∧ (F.name == "runtime.NumGoroutine")=false∧∃ af:AFunc,compFn Tryz.prog F=some af.strip)
  (hf:∀ (l:Ld.Lo) (ns:List Int) (v:AV),Big l→spec l ns=some v→Bare v∧∃ m H' tc,Ev.call cfgM m (.fn (.func f) [] []) (.agg (loadCs l)::ns.map (AV.int .i64)) []=some (.ret v,H',tc)):
  (∃ F, Tryz.prog.funcs[f]? = some F ∧ (F.name == "runtime.NumGoroutine")=false∧F.body.isNone=false)∧∀ (args:List AV) (H:List AB) (v:AV) (rargs:Array Value) (W:World) (L:Nat→Prop) (μ:Mu),gLd spec args H=some v→VL W L μ args rargs.toList→Sim Tryz.prog W L μ H →
   CallsIn Fence.wide 0 Tryz.prog f rargs W fun e W'=>(∃ w,e=.returned w∧VR W' L nomu v w)∧Below W.heap.size W W':=by
 refine ⟨known f hk,fun args H v rargs W L μ h hv hs=>?_⟩
 unfold gLd at h
 split at h
 ·rename_i u rest
  obtain ⟨l,h1,h2⟩:=Option.bind_eq_some_iff.1 h
  obtain ⟨ns,h3,h4⟩:=Option.bind_eq_some_iff.1 h2
  obtain ⟨rfl,hns⟩:=zko h3
  obtain ⟨hb,m,H',tc,hcall⟩:=hf l ns v (big_of h1) h4
  refine (zjm tblM hcall hb (zbh _ _ _) ⟨hv.1,fun i x r hx hr=>?_⟩).mono fun e W' ⟨⟨w,h1,h2⟩,h3⟩=>⟨⟨w,h1,h2 _ _ _⟩,h3⟩
  match i,hx with
  |0,hx=>cases hx;exact ld_arg hs h1 (hv.2 0 _ r rfl hr)
  |i+1,hx=>
   rw[List.getElem?_cons_succ,List.getElem?_map] at hx
   obtain ⟨n,h5,rfl⟩:=Option.map_eq_some_iff.1 hx
   exact zek (.inl ⟨_,_,rfl⟩) (hv.2 (i+1) (.int .i64 n) r (by rw[List.getElem?_cons_succ,List.getElem?_map,h5];rfl) hr)
 ·cases h
theorem glp_ok {spec : Ld.Lo → List Int → List Int → Option AV} {f : Nat} (hk : ∃ F, Tryz.prog.funcs[f]? = some F ∧ (F.name == "runtime.NumGoroutine")=false∧∃ af:AFunc,compFn Tryz.prog F=some af.strip)
  (hf:∀ (l:Ld.Lo) (p ns:List Int) (v:AV),Big l→p.length≤50→spec l p ns=some v→Bare v∧∃ m H' tc,Ev.call cfgM m (.fn (.func f) [] []) (.agg (loadCs l)::.vs 1 (ints p)::ns.map (AV.int .i64)) []=some (.ret v,H',tc)):
  (∃ F, Tryz.prog.funcs[f]? = some F ∧ (F.name == "runtime.NumGoroutine")=false∧F.body.isNone=false)∧∀ (args:List AV) (H:List AB) (v:AV) (rargs:Array Value) (W:World) (L:Nat→Prop) (μ:Mu),gLp spec args H=some v→VL W L μ args rargs.toList→Sim Tryz.prog W L μ H →
   CallsIn Fence.wide 0 Tryz.prog f rargs W fun e W'=>(∃ w,e=.returned w∧VR W' L nomu v w)∧Below W.heap.size W W':=by
 refine ⟨known f hk,fun args H v rargs W L μ h hv hs=>?_⟩
 unfold gLp at h
 split at h
 ·rename_i u pv rest
  obtain ⟨l,h1,h2⟩:=Option.bind_eq_some_iff.1 h
  obtain ⟨p,hp,h2⟩:=Option.bind_eq_some_iff.1 h2
  obtain ⟨ns,h3,h4⟩:=Option.bind_eq_some_iff.1 h2
  obtain ⟨rfl,hns⟩:=zko h3
  obtain ⟨hb,m,H',tc,hcall⟩:=hf l p ns v (big_of h1) (ycx hp).2 h4
  refine (zjm tblM hcall hb (zbh _ _ _) ⟨hv.1,fun i x r hx hr=>?_⟩).mono fun e W' ⟨⟨w,h1,h2⟩,h3⟩=>⟨⟨w,h1,h2 _ _ _⟩,h3⟩
  match i,hx with
  |0,hx=>cases hx;exact ld_arg hs h1 (hv.2 0 _ r rfl hr)
  |1,hx=>cases hx;exact pl_arg hs hp (hv.2 1 _ r rfl hr)
  |i+2,hx=>
   rw[List.getElem?_cons_succ,List.getElem?_cons_succ,List.getElem?_map] at hx
   obtain ⟨n,h5,rfl⟩:=Option.map_eq_some_iff.1 hx
   exact zek (.inl ⟨_,_,rfl⟩) (hv.2 (i+2) (.int .i64 n) r (by rw[List.getElem?_cons_succ,List.getElem?_cons_succ,List.getElem?_map,h5];rfl) hr)
 ·cases h
def sCheck (l:Ld.Lo)(p:List Int):List Int→Option AV|[]=>some (checkRV l p)|_=>none
def sPlan (l:Ld.Lo):List Int→Option AV|[]=>some (planV l)|_=>none
def sAll (l:Ld.Lo):List Int→Option AV|[]=>some (allRV l)|_=>none
def sAlone (l:Ld.Lo):List Int→Option AV|[i]=>some (aloneRV l i)|_=>none
def sNever (l:Ld.Lo):List Int→Option AV|[]=>some (neverRV l)|_=>none
def sWith (l:Ld.Lo):List Int→Option AV|[i]=>some (withRV l i)|_=>none
def sMore (l:Ld.Lo)(p:List Int):List Int→Option AV|[d]=>if l.carts=[] then none else some (moreRV l p d)|_=>none
end Ro
end Ev
end Go.Proofs.YtfpepkbflnendaaGreat
namespace Go.Proofs.YtfpepkbflnendaaGreat
open Go
namespace Ev
namespace Ro
open K
set_option maxRecDepth 100000
set_option maxHeartbeats 4000000
structure KnowsY (C:Cfg):Prop where
 calm:C.calm=true
 wh:∀ f,C.whole f=true
 power:Has C 157 af157
 has:Has C 178 af178
 sunk:Has C 181 af181
 rested:Has C 180 af180
 ins:Has C 179 af179
 right:Has C 171 af171
 states:Has C 156 af156
 all:Has C 155 af155
 cases:Has C 129 af129
 every:Has C 130 af130
 Cases:Has C 94 af94
 rin:Has C 126 af126
 rspan:Has C 127 af127
 rpart:Has C 154 af154
 revent:Has C 128 af128
 rroad:Has C 93 af93
 lin:Has C 95 af95
 day:Has C 92 af92
 load:Has C 30 af30
section
variable {C:Cfg} (k:KnowsY C)
include k
theorem rinY (n:Nat):RinC (Ev.call C (n+1)):=fun H a b c=>zaj k.calm k.rin (le' rfl) rfl (zth C _ H a b c)
theorem roadY (n:Nat)(r:Rd.Road)(hp:r.parts.length≤1000)(he:r.events.length≤1000)(H:List AB):Ev.call C (n+4) (.fn (.func 93) [] []) [.agg (roadCs r)] H=some (.ret (.bool (Rd.valid r)),H,[]):=by
 have h2:∀ n,RspanC (Ev.call C (n+1)):=fun n H s a b w q1 q2=>zaj k.calm k.rspan (le' rfl) rfl (ztb C _ H s a b w q1 q2)
 have h3:∀ n,RpartC (Ev.call C (n+2)) r:=fun n H m=>zaj k.calm k.rpart (le' rfl) rfl (zjt C _ (rinY k n) r (by omega) H m)
 have h4:∀ n,ReventC (Ev.call C (n+3)) r:=fun n H v=>zaj k.calm k.revent (le' rfl) rfl (zpg C _ r (rinY k (n+1)) (h3 n) (h2 (n+1)) H v)
 exact zaj k.calm k.rroad (le' rfl) rfl (ztd C k.calm _ r ⟨hp,he⟩ (rinY k (n+2)) (h2 (n+2)) (h4 n) H)
theorem casesY {r:Rd.Road}(hf:Rd.Fine r)(n:Nat):CasesC (Ev.call C (n+13)) r:=by
 have pow:∀ n,PowC (Ev.call C (n+1)):=fun n H m hm=>zaj k.calm k.power (le' rfl) rfl (ztp C k.calm _ H m hm)
 have set:∀ n,SetC (Ev.call C (n+2)):=fun n H s m hs hm=>zaj k.calm k.has (le' rfl) rfl (zng C _ (pow n) H s m hs hm)
 have sunk:∀ n,RsuC (Ev.call C (n+1)):=fun n H p ld h1 h2 h3 h4=>zaj k.calm k.sunk (le' rfl) rfl (zta C _ H p ld h1 h2 h3 h4)
 have rest:∀ n,RreC (Ev.call C (n+1)):=fun n H x d a b h1 h2 h3 h4 h5 h6 h7=>zaj k.calm k.rested (le' rfl) rfl (zte C k.calm _ H x d a b h1 h2 h3 h4 h5 h6 h7)
 have ins:∀ n,InC (Ev.call C (n+2)) r:=fun n=>zti k.calm k.ins hf (sunk n) (rest n)
 have every:∀ n,EveC (Ev.call C (n+2)) r:=fun n H=>zaj k.calm k.every (le' rfl) rfl (zpf C _ r hf (pow n) H)
 have right:∀ n set,set≤1000000→RigC (Ev.call C (n+3)) r set:=fun n s hs=>Ro.right_call k.calm k.right hf hs (set n) (rinY k (n+1)) (ins n)
 have states:∀ n set,set≤1000000→RstC (Ev.call C (n+4)) r set:=fun n s hs=>zll k.calm k.wh k.states hf (right n s hs)
 have all:∀ n,RallC (Ev.call C (n+11)) r 0:=fun n=>by
  have h:=all_lv k.calm k.wh k.all hf r.events.length 0 (n+(10 - r.events.length)) (by omega)
  have he:=hf.events
  rwa [show n+(10 - r.events.length)+r.events.length+1=n+11 by omega] at h
 have cas:∀ n set,set≤1000000→CasC (Ev.call C (n+12)) r set:=fun n s hs=>zre k.calm k.wh k.cases hf (all n) (states (n+7) s hs)
 exact zls k.calm k.wh k.Cases (every (n + 10)) (cas n _ (by
  have h:=Nat.pow_le_pow_right (n:=2) (by decide) hf.events
  have h3:(2:Nat) ^ 10=1024:=rfl
  unfold Rd.everyR
  omega))
theorem lloadY (n:Nat){l:Ld.Lo}(hp:l.road.parts.length≤1000)(he:l.road.events.length≤1000)(hc:l.carts.length≤1000)(H:List AB):Ev.call C (n+14) (.fn (.func 30) [] []) [.agg (loadCs l)] H=some (.ret (.bool (Ld.valid l)),H,[]):=by
 have h1:∀ n,RinLC (Ev.call C (n+1)):=fun n H a b c=>zaj k.calm k.lin (le' rfl) rfl (yiq C _ H a b c)
 have h2:1≤l.days→l.days≤4→∀ n,RdayLC (Ev.call C (n+2)) l:=fun d0 d1 n H m=>zaj k.calm k.day (le' rfl) rfl (yha C _ (h1 n) l ⟨by omega,by omega⟩ H m)
 exact zaj k.calm k.load (le' rfl) rfl (yhs C k.calm _ l (fun H=>roadY k (n+9) l.road hp he H) (fun hf=>casesY k hf n) (h1 (n+12)) (fun d0 d1=>h2 d0 d1 (n+11)) hc H)
end
end Ro
end Ev
end Go.Proofs.YtfpepkbflnendaaGreat
namespace Go.Proofs.YtfpepkbflnendaaGreat
open Go Go.Proofs
namespace Ev
set_option maxRecDepth 1000000
theorem is22:IsF 22 af22:=isT Tryz.func22
theorem is30:IsF 30 af30:=isT Tryz.func30
theorem is92:IsF 92 af92:=isT Tryz.func92
theorem is94:IsF 94 af94:=isT Tryz.func94
theorem is127:IsF 127 af127:=isT Tryz.func127
theorem is129:IsF 129 af129:=isT Tryz.func129
theorem is154:IsF 154 af154:=isT Tryz.func154
theorem is156:IsF 156 af156:=isT Tryz.func156
theorem is178:IsF 178 af178:=isT Tryz.func178
theorem is180:IsF 180 af180:=isT Tryz.func180
theorem is93:IsF 93 af93:=isT Tryz.func93
theorem is95:IsF 95 af95:=isT Tryz.func95
theorem is126:IsF 126 af126:=isT Tryz.func126
theorem is128:IsF 128 af128:=isT Tryz.func128
theorem is130:IsF 130 af130:=isT Tryz.func130
theorem is155:IsF 155 af155:=isT Tryz.func155
theorem is157:IsF 157 af157:=isT Tryz.func157
theorem is171:IsF 171 af171:=isT Tryz.func171
theorem is179:IsF 179 af179:=isT Tryz.func179
theorem is181:IsF 181 af181:=isT Tryz.func181
end Ev
namespace Ev
def treeLdV:FT:=(.node 130 af130 (.node 95 af95 (.node 93 af93 (.node 92 af92 (.node 30 af30 .leaf .leaf) .leaf) (.node 94 af94 .leaf .leaf)) (.node 128 af128 (.node 127 af127 (.node 126 af126 .leaf .leaf) .leaf) (.node 129 af129 .leaf .leaf))) (.node 171 af171 (.node 156 af156 (.node 155 af155 (.node 154 af154 .leaf .leaf) .leaf) (.node 157 af157 .leaf .leaf)) (.node 180 af180 (.node 179 af179 (.node 178 af178 .leaf .leaf) .leaf) (.node 181 af181 .leaf .leaf))))
theorem yeo : FT.All (fun k af => ∃ F, Tryz.prog.funcs[k]? = some F ∧ (F.name == "runtime.NumGoroutine")=false∧compFn Tryz.prog F=some af.strip) treeLdV:=
 ⟨is130,⟨is95,⟨is93,⟨is92,⟨is30,trivial,trivial⟩,trivial⟩,⟨is94,trivial,trivial⟩⟩,⟨is128,⟨is127,⟨is126,trivial,trivial⟩,trivial⟩,⟨is129,trivial,trivial⟩⟩⟩,⟨is171,⟨is156,⟨is155,⟨is154,trivial,trivial⟩,trivial⟩,⟨is157,trivial,trivial⟩⟩,⟨is180,⟨is179,⟨is178,trivial,trivial⟩,trivial⟩,⟨is181,trivial,trivial⟩⟩⟩⟩
def treeLdA:FT:=(.node 46 af46 (.node 37 af37 (.node 22 af22 (.node 13 af13 .leaf .leaf) .leaf) (.node 45 af45 .leaf .leaf)) (.node 111 af111 (.node 47 af47 .leaf .leaf) (.node 144 af144 .leaf .leaf)))
theorem yep : FT.All (fun k af => ∃ F, Tryz.prog.funcs[k]? = some F ∧ (F.name == "runtime.NumGoroutine")=false∧compFn Tryz.prog F=some af.strip) treeLdA:=
 ⟨is46,⟨is37,⟨is22,⟨is13,trivial,trivial⟩,trivial⟩,⟨is45,trivial,trivial⟩⟩,⟨is111,⟨is47,trivial,trivial⟩,⟨is144,trivial,trivial⟩⟩⟩
end Ev
end Go.Proofs.YtfpepkbflnendaaGreat
namespace Go.Proofs.YtfpepkbflnendaaGreat
open Go
namespace Ld
open Rd (Evt Tr restE passE addR All Tru endR sunk rested Fine)
end Ld
end Go.Proofs.YtfpepkbflnendaaGreat
namespace Go.Proofs.YtfpepkbflnendaaGreat
open Go Go.Proofs Go.RowKit
namespace Ev
namespace Ro
open K
set_option maxRecDepth 100000
set_option maxHeartbeats 4000000
noncomputable def exthT (f:Nat):Option (List AV→List AB→Option AV):=
 if f=14 then some (gLp sCheck) else if f=16 then some (gLd sPlan) else if f=18 then some (gLd sAll) else if f=20 then some (gLd sAlone) else if f=23 then some (gLd sNever) else if f=25 then some (gLd sWith) else if f=27 then some (gLp sMore) else exthL0 f
theorem ygf (l:Ld.Lo)(p:List Int):Bare (checkRV l p):=by
 unfold checkRV
 split
 ·split<;>exact zrk _ _ _
 ·exact zrk _ _ _
theorem yjk (l:Ld.Lo):Bare (allRV l):=by
 unfold allRV
 split
 ·split<;>exact zef _ _
 ·exact zef _ _
theorem ygg (l:Ld.Lo)(i:Int):Bare (aloneRV l i):=by
 unfold aloneRV
 split
 ·split<;>exact zef _ _
 ·exact zef _ _
theorem yge (l:Ld.Lo):Bare (neverRV l):=by
 unfold neverRV
 split<;>exact zef _ _
theorem yij (l:Ld.Lo)(i:Int):Bare (withRV l i):=by
 unfold withRV
 split
 ·split<;>exact zef _ _
 ·exact zef _ _
theorem yik (l:Ld.Lo)(p:List Int)(d:Int):Bare (moreRV l p d):=by
 unfold moreRV
 split
 ·split
  ·split<;>exact zef _ _
  ·exact zef _ _
 ·exact zef _ _
theorem big1000 {l:Ld.Lo}(b:Big l):l.road.parts.length≤40∧l.road.events.length≤50∧l.carts.length≤1000:=⟨b.p,b.e,by have:=b.c;omega⟩
theorem yhd {l:Ld.Lo}(b:Big l){W:World}{L:Nat→Prop}{rargs:Array Value}(hv:VL W (fun _=>False) nomu [.agg (loadCs l)] rargs.toList)(hL:∀ b,L b→b<W.heap.size):CallsIn Fence.wide 0 Tryz.prog 16 rargs W fun e W'=>(∃ w,e=.returned w∧VR W' L nomu (planV l) w)∧Below W.heap.size W W':=by
 obtain ⟨H',pv,hcall,hpl⟩:=planE lknowsM (big1000 b) 0
 refine (zrz tblM hcall (zbh _ _ _) hv).mono ?_
 rintro en W' ⟨⟨L',μ',c1,hs,hnew⟩,c2⟩
 cases en<;>simp only[CRel] at c1
 rename_i w
 refine ⟨⟨w,rfl,?_⟩,c2⟩
 unfold planV
 cases c1 with
 |dead h=>simp[headRef] at h
 |@tup _ _ rs h1 h2=>
  match rs,h1 with
  |[r0,r1,r2],_=>
    have a0:=h2 0 _ _ rfl rfl
    have a1:=h2 1 _ _ rfl rfl
    have a2:=h2 2 _ _ rfl rfl
    refine .tup rfl fun i x r hx hr=>?_
    match i,hx,hr with
    |0,hx,hr=>
     cases hx;cases hr
     generalize (if Ld.valid l=true then (Ld.planR l).1 else [])=p at hpl ⊢
     cases hpl with
     |none h=>
      subst h
      cases a0 with
      |dead h=>simp[headRef] at h
      |nils=>exact .vs0
     |some q h0 _ hq=>
      refine yjr a0 hs hnew hq (by simp[ints]) (fun y hy=>?_) hL
      obtain ⟨n,rfl⟩:=yef p y hy
      exact ⟨_,_,rfl⟩
    |1,hx,hr=>cases hx;cases hr;exact zek (.inl ⟨_,_,rfl⟩) a1
    |2,hx,hr=>cases hx;cases hr;exact zek (.inl ⟨_,_,rfl⟩) a2
    |i+3,hx,hr=>simp at hx
theorem yei (f : Nat) (g : List AV → List AB → Option AV) (h : exthT f = some g) : (∃ F, Tryz.prog.funcs[f]? = some F ∧ (F.name == "runtime.NumGoroutine")=false∧F.body.isNone=false)∧∀ (args:List AV) (H:List AB) (v:AV) (rargs:Array Value) (W:World) (L:Nat→Prop) (μ:Mu),g args H=some v→VL W L μ args rargs.toList→Sim Tryz.prog W L μ H→
   CallsIn Fence.wide 0 Tryz.prog f rargs W fun e W'=>(∃ w,e=.returned w∧VR W' L nomu v w)∧Below W.heap.size W W':=by
 have kn : ∀ {f : Nat} {af : AFunc}, (∃ F, Tryz.prog.funcs[f]? = some F ∧ (F.name == "runtime.NumGoroutine")=false∧compFn Tryz.prog F=some af.strip)→∃ F,Tryz.prog.funcs[f]?=some F∧(F.name== "runtime.NumGoroutine")=false∧∃ af:AFunc,compFn Tryz.prog F=some af.strip:=fun ⟨F,h1,h2,h3⟩=>⟨F,h1,h2,_,h3⟩
 unfold exthT at h
 split at h
 ·rename_i hf;subst hf;cases h
  exact glp_ok (spec:=sCheck) (kn is14) fun l p ns v b hp hs=>by
   unfold sCheck at hs
   split at hs<;>cases hs
   exact ⟨ygf l p,_,_,_,checkE lknowsM (big1000 b) 0 p (by omega)⟩
 split at h
 ·rename_i hf;subst hf;cases h
  refine ⟨known _ (kn is16),fun args H v rargs W L μ h hv hs=>?_⟩
  unfold gLd at h
  split at h
  ·rename_i u rest
   obtain ⟨l,h1,h2⟩:=Option.bind_eq_some_iff.1 h
   obtain ⟨ns,h3,h4⟩:=Option.bind_eq_some_iff.1 h2
   obtain ⟨rfl,hns⟩:=zko h3
   unfold sPlan at h4
   split at h4<;>cases h4
   refine yhd (big_of h1) ⟨hv.1,fun i x r hx hr=>?_⟩ hs.lt
   match i,hx with
   |0,hx=>cases hx;exact ld_arg hs h1 (hv.2 0 _ r rfl hr)
   |i+1,hx=>simp at hx
  ·cases h
 split at h
 ·rename_i hf;subst hf;cases h
  exact gld_ok (spec:=sAll) (kn is18) fun l ns v b hs=>by
   unfold sAll at hs
   split at hs<;>cases hs
   exact ⟨yjk l,_,_,_,allE lknowsM (big1000 b) 0⟩
 split at h
 ·rename_i hf;subst hf;cases h
  exact gld_ok (spec:=sAlone) (kn is20) fun l ns v b hs=>by
   unfold sAlone at hs
   split at hs<;>cases hs
   exact ⟨ygg l _,_,_,_,aloneE lknowsM (big1000 b) 0 _⟩
 split at h
 ·rename_i hf;subst hf;cases h
  exact gld_ok (spec:=sNever) (kn is23) fun l ns v b hs=>by
   unfold sNever at hs
   split at hs<;>cases hs
   exact ⟨yge l,_,_,_,neverE lknowsM (big1000 b) 0⟩
 split at h
 ·rename_i hf;subst hf;cases h
  exact gld_ok (spec:=sWith) (kn is25) fun l ns v b hs=>by
   unfold sWith at hs
   split at hs<;>cases hs
   exact ⟨yij l _,_,_,_,withE lknowsM (big1000 b) 0 _⟩
 split at h
 ·rename_i hf;subst hf;cases h
  exact glp_ok (spec:=sMore) (kn is27) fun l p ns v b hp hs=>by
   unfold sMore at hs
   split at hs
   rotate_left
   ·cases hs
   split at hs
   ·cases hs
   rename_i hc
   cases hs
   exact ⟨yik l p _,_,_,_,moreE lknowsM (big1000 b) 0 p (by omega) _ hc⟩
 ·obtain ⟨k1,k2⟩:=zny f g h
  exact ⟨k1,fun args H v rargs W L μ a b c=>k2 args H v rargs W L μ a b c (zbh _ _ _)⟩
noncomputable def cfgF:Cfg where
 fns:=FT.find treeLdV
 glob:=fun _=>none
 dfk:=fun _=>none
 ext:=fun _=>none
 exth:=fun _=>none
 calm:=true
 whole:=fun _=>true
theorem tblF:TblOk Tryz.prog cfgF:=⟨fun f fn h=>FT.find_all yeo h,fun _ _ h=>(by cases h),fun _ _ h=>(by cases h),fun _ _ _ h=>(by cases h)⟩
theorem knowsY:KnowsY cfgF where
 calm:=rfl
 wh:=fun _=>rfl
 power:=has_of rfl rfl (by kernel_rfl) rfl
 has:=has_of rfl rfl (by kernel_rfl) rfl
 sunk:=has_of rfl rfl (by kernel_rfl) rfl
 rested:=has_of rfl rfl (by kernel_rfl) rfl
 ins:=has_of rfl rfl (by kernel_rfl) rfl
 right:=has_of rfl rfl (by kernel_rfl) rfl
 states:=has_of rfl rfl (by kernel_rfl) rfl
 all:=has_of rfl rfl (by kernel_rfl) rfl
 cases:=has_of rfl rfl (by kernel_rfl) rfl
 every:=has_of rfl rfl (by kernel_rfl) rfl
 Cases:=has_of rfl rfl (by kernel_rfl) rfl
 rin:=has_of rfl rfl (by kernel_rfl) rfl
 rspan:=has_of rfl rfl (by kernel_rfl) rfl
 rpart:=has_of rfl rfl (by kernel_rfl) rfl
 revent:=has_of rfl rfl (by kernel_rfl) rfl
 rroad:=has_of rfl rfl (by kernel_rfl) rfl
 lin:=has_of rfl rfl (by kernel_rfl) rfl
 day:=has_of rfl rfl (by kernel_rfl) rfl
 load:=has_of rfl rfl (by kernel_rfl) rfl
def sValid (l:Ld.Lo):List Int→Option AV|[]=>some (.bool (Ld.valid l))|_=>none
theorem yka {C : Cfg} (hT : TblOk Tryz.prog C) (hG : ∀ W L, Globs C W L) {spec : Ld.Lo → List Int → Option AV} {f : Nat} (hk : ∃ F, Tryz.prog.funcs[f]? = some F ∧ (F.name == "runtime.NumGoroutine")=false∧∃ af:AFunc,compFn Tryz.prog F=some af.strip)
  (hf:∀ (l:Ld.Lo) (ns:List Int) (v:AV),Big l→spec l ns=some v→Bare v∧∃ m H' tc,Ev.call C m (.fn (.func f) [] []) (.agg (loadCs l)::ns.map (AV.int .i64)) []=some (.ret v,H',tc)):
  (∃ F, Tryz.prog.funcs[f]? = some F ∧ (F.name == "runtime.NumGoroutine")=false∧F.body.isNone=false)∧∀ (args:List AV) (H:List AB) (v:AV) (rargs:Array Value) (W:World) (L:Nat→Prop) (μ:Mu),gLd spec args H=some v→VL W L μ args rargs.toList→Sim Tryz.prog W L μ H →
   CallsIn Fence.wide 0 Tryz.prog f rargs W fun e W'=>(∃ w,e=.returned w∧VR W' L nomu v w)∧Below W.heap.size W W':=by
 refine ⟨known f hk,fun args H v rargs W L μ h hv hs=>?_⟩
 unfold gLd at h
 split at h
 ·rename_i u rest
  obtain ⟨l,h1,h2⟩:=Option.bind_eq_some_iff.1 h
  obtain ⟨ns,h3,h4⟩:=Option.bind_eq_some_iff.1 h2
  obtain ⟨rfl,hns⟩:=zko h3
  obtain ⟨hb,m,H',tc,hcall⟩:=hf l ns v (big_of h1) h4
  refine (zjm hT hcall hb (hG _ _) ⟨hv.1,fun i x r hx hr=>?_⟩).mono fun e W' ⟨⟨w,h1,h2⟩,h3⟩=>⟨⟨w,h1,h2 _ _ _⟩,h3⟩
  match i,hx with
  |0,hx=>cases hx;exact ld_arg hs h1 (hv.2 0 _ r rfl hr)
  |i+1,hx=>
   rw[List.getElem?_cons_succ,List.getElem?_map] at hx
   obtain ⟨n,h5,rfl⟩:=Option.map_eq_some_iff.1 hx
   exact zek (.inl ⟨_,_,rfl⟩) (hv.2 (i+1) (.int .i64 n) r (by rw[List.getElem?_cons_succ,List.getElem?_map,h5];rfl) hr)
 ·cases h
noncomputable def cfgA:Cfg where
 fns:=FT.find treeLdA
 glob:=fun _=>none
 dfk:=fun _=>none
 ext:=fun _=>none
 exth:=exthT
 calm:=true
 whole:=fun _=>true
theorem tblA : TblOk Tryz.prog cfgA := ⟨fun f fn h => FT.find_all yep h, fun _ _ h => (by cases h), fun f g h => by
 obtain ⟨k1,k2⟩:=yei f g h
 exact ⟨k1,fun args H v rargs W L μ a b c _=>k2 args H v rargs W L μ a b c⟩,fun _ _ _ h=>(by cases h)⟩
noncomputable def isTrue (o:Option (CRes × List AB × List Nat)):Bool:=match o with
 |some (.ret (.bool b),_,_)=>b
 |_=>false
theorem zms:isTrue (Ev.call cfgA 8 (.fn (.func 13) [] []) [] [])=true:=by kernel_rfl
theorem zrp (W:World):CallsIn Fence.wide 0 Tryz.prog 13 #[] W fun e W'=>e=.returned (.bool true)∧Below W.heap.size W W':=by
 have h:=zms
 generalize hr:Ev.call cfgA 8 (.fn (.func 13) [] []) [] []=o at h
 unfold isTrue at h
 split at h
 ·rename_i b H' tc
  subst h
  exact zwr tblA hr W (zbh _ _ _)
 ·cases h
def gAlive (args:List AV)(_:List AB):Option AV:=match args with|[]=>some (.bool true)|_=>none
noncomputable def exthL (f:Nat):Option (List AV→List AB→Option AV):=if f=30 then some (gLd sValid) else if f=13 then some gAlive else exthT f
noncomputable def cfgL (t:FT):Cfg where
 fns:=FT.find t
 glob:=fun _=>none
 dfk:=fun _=>none
 ext:=fun _=>none
 exth:=exthL
 calm:=true
 whole:=fun _=>true
def IsTree (t : FT) : Prop := FT.All (fun k af => ∃ F, Tryz.prog.funcs[k]? = some F ∧ (F.name == "runtime.NumGoroutine")=false∧compFn Tryz.prog F=some af.strip) t
theorem tblL {t:FT}(ht:IsTree t):TblOk Tryz.prog (cfgL t):=by
 refine ⟨fun f fn h=>FT.find_all ht h,fun _ _ h=>(by cases h),fun f g h=>?_,fun _ _ _ h=>(by cases h)⟩
 have h':exthL f=some g:=h
 unfold exthL at h'
 split at h'
 ·rename_i hf;subst hf;cases h'
  obtain ⟨F,f1,f2,f3⟩:=is30
  obtain ⟨k1,k2⟩:=yka tblF (fun _ _=>zbh _ _ _) (spec:=sValid) ⟨F,f1,f2,_,f3⟩ fun l ns v b hs=>by
   unfold sValid at hs
   split at hs<;>cases hs
   exact ⟨trivial,14,_,_,lloadY knowsY 0 (by have:=b.p;omega) (by have:=b.e;omega) (by have:=b.c;omega) []⟩
  exact ⟨k1,fun args H v rargs W L μ a b c _=>k2 args H v rargs W L μ a b c⟩
 split at h'
 ·rename_i hf;subst hf;cases h'
  obtain ⟨F,f1,f2,f3⟩:=is13
  refine ⟨known _ ⟨F,f1,f2,_,f3⟩,fun args H v rargs W L μ hv hr hs hG=>?_⟩
  unfold gAlive at hv
  split at hv
  ·cases hv
   have:rargs=#[]:=Array.ext' (List.eq_nil_of_length_eq_zero (by have:=hr.1;simpa using this.symm))
   subst this
   exact (zrp W).mono fun e W' ⟨h1,h2⟩=>⟨⟨_,h1,.bool⟩,h2⟩
  ·cases hv
 ·obtain ⟨k1,k2⟩:=yei f g h'
  exact ⟨k1,fun args H v rargs W L μ a b c _=>k2 args H v rargs W L μ a b c⟩
theorem gLd_of {spec:Ld.Lo→List Int→Option AV}{H:List AB}{v:AV}{l:Ld.Lo}(hc:loadOf H v=some l){ns:List Int}(hn:∀ n∈ns,i64n n){w:AV}(hs:spec l ns=some w):gLd spec (v::ns.map (AV.int .i64)) H=some w:=by
 simp[gLd,hc,ybr hn,hs]
theorem gLp_of {spec:Ld.Lo→List Int→List Int→Option AV}{H:List AB}{v pv:AV}{l:Ld.Lo}{p:List Int}(hc:loadOf H v=some l)(hp:plnOf H pv=some p){ns:List Int}(hn:∀ n∈ns,i64n n){w:AV}(hs:spec l p ns=some w):gLp spec (v::pv::ns.map (AV.int .i64)) H=some w:=by
 simp[gLp,hc,hp,ybr hn,hs]
theorem lapi {t:FT}(hl:Has (cfgL t) 29 af29)(n:Nat):LApi (Ev.call (cfgL t) (n+1)) where
 check hc hp:=ybf (g:=gLp sCheck) rfl rfl n (gLp_of (ns:=[]) hc hp (by simp) rfl)
 plan hc:=ybf (g:=gLd sPlan) rfl rfl n (gLd_of (ns:=[]) hc (by simp) rfl)
 all hc:=ybf (g:=gLd sAll) rfl rfl n (gLd_of (ns:=[]) hc (by simp) rfl)
 alone hc i hi:=ybf (g:=gLd sAlone) rfl rfl n (gLd_of (ns:=[i]) hc (by simpa using hi) rfl)
 never hc:=ybf (g:=gLd sNever) rfl rfl n (gLd_of (ns:=[]) hc (by simp) rfl)
 with_ hc i hi:=ybf (g:=gLd sWith) rfl rfl n (gLd_of (ns:=[i]) hc (by simpa using hi) rfl)
 more hc hp h0 d hd:=ybf (g:=gLp sMore) rfl rfl n (gLp_of (ns:=[d]) hc hp (by simpa using hd) (if_neg h0))
 bears hc n' hn:=ybf (g:=gRd sBears) rfl rfl n (gRd_of (ns:=[n']) hc (by simpa using hn) rfl)
 valid hc:=ybf (g:=gLd sValid) rfl rfl n (gLd_of (ns:=[]) hc (by simp) rfl)
 alive:=ybf (g:=gAlive) rfl rfl n rfl
 long {H} l:=zaj rfl hl (le' rfl) rfl (zya (cfgL t) _ l H)
end Ro
end Ev
end Go.Proofs.YtfpepkbflnendaaGreat
namespace Go.Proofs.YtfpepkbflnendaaGreat
open Go Go.Proofs Go.RowKit Go.ChangeShapes Go.WideShapes Go.Deep
namespace Ev
namespace Ro
open K
section
variable {H:Type} {enc:TypeId × Value→H} {w:World} {base:Nat} {spare:Nat→Bool} {held:Bool} {fuel:Nat} {cs:List Value}
theorem list2 {cs:List Value}(h:cs.length=2):∃ a b,cs=[a,b]:=by
 match cs,h with|[a,b],_=>exact ⟨a,b,rfl⟩
theorem list7 {cs:List Value}(h:cs.length=7):∃ a b c d e f g,cs=[a,b,c,d,e,f,g]:=by
 match cs,h with|[a,b,c,d,e,f,g],_=>exact ⟨a,b,c,d,e,f,g,rfl⟩
theorem zhj:Tryz.prog.cellsOf 3=1:=by kernel_rfl
theorem zfr:Tryz.prog.cellsOf 47=2:=by kernel_rfl
theorem zij:Tryz.prog.cellsOf 55=7:=by kernel_rfl
theorem zhk:Tryz.prog.cellsOf 49=7:=by kernel_rfl
theorem zrd:Tryz.prog.cellsOf 25=2:=by kernel_rfl
theorem zmn:Tryz.prog.cellsOf 22=1:=by kernel_rfl
theorem zla:Tryz.prog.cellsOf 23=1:=by kernel_rfl
theorem trod_i (h:∃ y,DataW.trod enc Tryz.prog w base spare held fuel 3 cs=some y):∃ n,cs=[.int .i64 n]:=by
 obtain ⟨y,h⟩:=h
 obtain ⟨n,h1,_,h2⟩:=DataW.trod_int Tryz.underlying3 h
 exact ⟨n,h1⟩
theorem zdp (h:∃ y,DataW.trod enc Tryz.prog w base spare held fuel 47 cs=some y):∃ a b,cs=[.int .i64 a,.int .i64 b]:=by
 obtain ⟨y,h⟩:=h
 obtain ⟨xs,n,rfl,_,hl,hx,hf⟩:=DataW.trod_struct Tryz.underlying47 h
 rw[zfr] at hl
 have hx:xs.length=2:=hx
 obtain ⟨c0,c1,rfl⟩:=list2 hl
 clear hl
 obtain ⟨a,ha⟩:=trod_i ⟨_,(hf 0 _ rfl).trans (List.getElem?_eq_getElem (by omega))⟩
 obtain ⟨b,hb⟩:=trod_i ⟨_,(hf 1 _ rfl).trans (List.getElem?_eq_getElem (by omega))⟩
 simp[zhj] at ha hb
 exact ⟨a,b,by rw[ha,hb]⟩
def ptR (p:Rd.Pt):List Value:=[.int .i64 p.height.lo,.int .i64 p.height.hi,.int .i64 p.stiff.lo,.int .i64 p.stiff.hi,.int .i64 p.rise.lo,.int .i64 p.rise.hi,.int .i64 p.full]
def evR (v:Rd.Evt):List Value:=[.int .i64 v.kind,.int .i64 v.load.lo,.int .i64 v.load.hi,.int .i64 v.days,.int .i64 v.part,.int .i64 v.shows.lo,.int .i64 v.shows.hi]
theorem zrv (h:∃ y,DataW.trod enc Tryz.prog w base spare held fuel 55 cs=some y):∃ p,cs=ptR p:=by
 obtain ⟨y,h⟩:=h
 obtain ⟨xs,n,rfl,_,hl,hx,hf⟩:=DataW.trod_struct Tryz.underlying55 h
 rw[zij] at hl
 have hx:xs.length=4:=hx
 obtain ⟨c0,c1,c2,c3,c4,c5,c6,rfl⟩:=list7 hl
 clear hl
 obtain ⟨a,b,hab⟩:=zdp ⟨_,(hf 0 _ rfl).trans (List.getElem?_eq_getElem (by omega))⟩
 obtain ⟨d,e,hde⟩:=zdp ⟨_,(hf 1 _ rfl).trans (List.getElem?_eq_getElem (by omega))⟩
 obtain ⟨f,g,hfg⟩:=zdp ⟨_,(hf 2 _ rfl).trans (List.getElem?_eq_getElem (by omega))⟩
 obtain ⟨i,hi⟩:=trod_i ⟨_,(hf 3 _ rfl).trans (List.getElem?_eq_getElem (by omega))⟩
 simp[zfr,zhj] at hab hde hfg hi
 exact ⟨⟨⟨a,b⟩,⟨d,e⟩,⟨f,g⟩,i⟩,by rw[hab.1,hab.2,hde.1,hde.2,hfg.1,hfg.2,hi];rfl⟩
theorem zop (h:∃ y,DataW.trod enc Tryz.prog w base spare held fuel 49 cs=some y):∃ p,cs=evR p:=by
 obtain ⟨y,h⟩:=h
 obtain ⟨xs,n,rfl,_,hl,hx,hf⟩:=DataW.trod_struct Tryz.underlying49 h
 rw[zhk] at hl
 have hx:xs.length=5:=hx
 obtain ⟨c0,c1,c2,c3,c4,c5,c6,rfl⟩:=list7 hl
 clear hl
 obtain ⟨a,ha⟩:=trod_i ⟨_,(hf 0 _ rfl).trans (List.getElem?_eq_getElem (by omega))⟩
 obtain ⟨d,e,hde⟩:=zdp ⟨_,(hf 1 _ rfl).trans (List.getElem?_eq_getElem (by omega))⟩
 obtain ⟨b,hb⟩:=trod_i ⟨_,(hf 2 _ rfl).trans (List.getElem?_eq_getElem (by omega))⟩
 obtain ⟨i,hi⟩:=trod_i ⟨_,(hf 3 _ rfl).trans (List.getElem?_eq_getElem (by omega))⟩
 obtain ⟨f,g,hfg⟩:=zdp ⟨_,(hf 4 _ rfl).trans (List.getElem?_eq_getElem (by omega))⟩
 simp[zfr,zhj] at ha hde hb hi hfg
 exact ⟨⟨a,⟨d,e⟩,b,i,⟨f,g⟩⟩,by rw[ha,hde.1,hde.2,hb,hi,hfg.1,hfg.2];rfl⟩
theorem row_vr {α:Type}{t e:TypeId}{k:Nat}(d:α)(g:α→List Value)(G:α→AV)(hk:0<k)(hg:∀ y,(g y).length=k)(hG:∀ y,(G y).cells.length=k)(hv:∀ (y:α) (j:Nat) (x:AV) (r:Value),(G y).cells[j]?=some x→(g y)[j]?=some r→VR w (fun _=>False) nomu x r)
  (ht:Tryz.prog.underlying t=some (.slice e)) (hc:Tryz.prog.cellsOf e=k)
  (he:∀ (fuel:Nat) (cs:List Value),(∃ y,DataW.trod enc Tryz.prog w base spare held fuel e cs=some y)→∃ y,cs=g y)
  (h:∃ y,DataW.trod enc Tryz.prog w base spare held fuel t cs=some y):
  ∃ (l:List α) (x:Value),cs=[x]∧VR w (fun _=>False) nomu (.vs k (l.map G)) x:=by
 obtain ⟨y,h⟩:=h
 rcases open_slice ht h with ⟨rfl,_⟩|⟨a,len,cap,m,n,D,Pl,rfl,hb,hl,hm,hmm,hx,hi⟩
 ·exact ⟨[],_,rfl,.vs0⟩
 ·have hml:len≤m:=by rw[hmm];split<;>omega
  have:∀ i,∃ y:α,i<len→∀ j,j<k→∃ r,(g y)[j]?=some r∧w.cell? (a.add (i * k+j))=some r:=by
   intro i
   by_cases hlt:i<len
   ·obtain ⟨cs',h1,h2⟩:=hi i (by omega)
    obtain ⟨y,rfl⟩:=he n cs' ⟨_,h2⟩
    rw[hc] at h1
    obtain ⟨_,_,h3⟩:=World.cells?_some h1
    refine ⟨y,fun _ j hj=>⟨(g y)[j]'(by rw[hg];exact hj),List.getElem?_eq_getElem _,?_⟩⟩
    rw[← Go.Deep.add_add,h3 j hj,List.getElem?_eq_getElem (by rw[hg];exact hj)]
   ·exact ⟨d,fun h=>absurd h hlt⟩
  obtain ⟨f,hf⟩:=Classical.skolem.1 this
  refine ⟨(List.range len).map f,_,rfl,?_⟩
  by_cases h0:len=0
  ·subst h0;exact .vs0
  ·obtain ⟨r0,_,h00⟩:=hf 0 (by omega) 0 hk
   have hs:=World.cell?_spot h00
   obtain ⟨b,off,sp⟩:=a
   obtain rfl:sp=none:=by simpa [Addr.add] using hs
   have hadd:∀ u,Addr.add ⟨b,off,none⟩ u=⟨b,off+u,none⟩:=fun u=>by simp[Addr.add]
   have hlen:(((List.range len).map f).map G).length=len:=by simp
   have hat:∀ (i:Nat) (e:AV),(((List.range len).map f).map G)[i]?=some e→i<len∧e=G (f i):=by
    intro i e h
    have hi:i<len:=by have:=(List.getElem?_eq_some_iff.1 h).1;simpa using this
    simp[hi] at h
    exact ⟨hi,h.symm⟩
   have key:VR w (fun _=>False) nomu (.vs k (((List.range len).map f).map G)) (.slice (some ⟨b,off,none⟩) (((List.range len).map f).map G).length cap):=by
    refine .vs (fun i j=>(g (f i)).getD j .nilFunc) (by rw[hlen];exact hl) (fun i e h=>?_) (fun i e j x h hx=>⟨id,?_⟩) (fun i e j x h hx=>?_)
    ·obtain ⟨_,rfl⟩:=hat i e h;exact hG _
    ·obtain ⟨hi,rfl⟩:=hat i e h
     have hj:j<k:=by have:=(List.getElem?_eq_some_iff.1 hx).1;rwa [hG] at this
     obtain ⟨r,h1,h2⟩:=hf i hi j hj
     rw[hadd,← Nat.add_assoc] at h2
     rw[h2,List.getD_eq_getElem?_getD,h1];rfl
    ·obtain ⟨hi,rfl⟩:=hat i e h
     have hj:j<k:=by have:=(List.getElem?_eq_some_iff.1 hx).1;rwa [hG] at this
     obtain ⟨r,h1,h2⟩:=hf i hi j hj
     rw[List.getD_eq_getElem?_getD,h1]
     exact hv _ j x r hx h1
   rw[hlen] at key
   exact key
theorem zmv {l:List AV}{m:List Value}(h:∀ (j:Nat) (x:AV) (r:Value),l[j]?=some x→m[j]?=some r→∃ n,x=.int .i64 n∧r=.int .i64 n)(j:Nat)(x:AV)(r:Value)(h1:l[j]?=some x)(h2:m[j]?=some r):VR w (fun _=>False) nomu x r:=by
 obtain ⟨n,rfl,rfl⟩:=h j x r h1 h2;exact .int
theorem zoo (h:∃ y,DataW.trod enc Tryz.prog w base spare held fuel 22 cs=some y):∃ (l:List Rd.Pt) (x:Value),cs=[x]∧VR w (fun _=>False) nomu (.vs 7 (l.map ptE)) x:=
 row_vr (k := 7) default ptR ptE (by decide) (fun _ => rfl) (fun _ => rfl) (fun y => zmv fun j x r h1 h2 => by
  match j,h1,h2 with
  |0,h1,h2=>cases h1;cases h2;exact ⟨_,rfl,rfl⟩
  |1,h1,h2=>cases h1;cases h2;exact ⟨_,rfl,rfl⟩
  |2,h1,h2=>cases h1;cases h2;exact ⟨_,rfl,rfl⟩
  |3,h1,h2=>cases h1;cases h2;exact ⟨_,rfl,rfl⟩
  |4,h1,h2=>cases h1;cases h2;exact ⟨_,rfl,rfl⟩
  |5,h1,h2=>cases h1;cases h2;exact ⟨_,rfl,rfl⟩
  |6,h1,h2=>cases h1;cases h2;exact ⟨_,rfl,rfl⟩
  |j+7,h1,h2=>simp[ptR] at h2) Tryz.underlying22 zij (fun _ _ h=>zrv h) h
theorem zlj (h:∃ y,DataW.trod enc Tryz.prog w base spare held fuel 23 cs=some y):∃ (l:List Rd.Evt) (x:Value),cs=[x]∧VR w (fun _=>False) nomu (.vs 7 (l.map evE)) x:=
 row_vr (k := 7) default evR evE (by decide) (fun _ => rfl) (fun _ => rfl) (fun y => zmv fun j x r h1 h2 => by
  match j,h1,h2 with
  |0,h1,h2=>cases h1;cases h2;exact ⟨_,rfl,rfl⟩
  |1,h1,h2=>cases h1;cases h2;exact ⟨_,rfl,rfl⟩
  |2,h1,h2=>cases h1;cases h2;exact ⟨_,rfl,rfl⟩
  |3,h1,h2=>cases h1;cases h2;exact ⟨_,rfl,rfl⟩
  |4,h1,h2=>cases h1;cases h2;exact ⟨_,rfl,rfl⟩
  |5,h1,h2=>cases h1;cases h2;exact ⟨_,rfl,rfl⟩
  |6,h1,h2=>cases h1;cases h2;exact ⟨_,rfl,rfl⟩
  |j+7,h1,h2=>simp[evR] at h2) Tryz.underlying23 zhk (fun _ _ h=>zop h) h
end
end Ro
end Ev
end Go.Proofs.YtfpepkbflnendaaGreat
namespace Go.Proofs.YtfpepkbflnendaaGreat
open Go Go.Proofs Go.RowKit Go.ChangeShapes Go.WideShapes Go.ChangeAt Go.Deep
namespace Ev
namespace Ro
open K
theorem yas {w:Value}{b:Bool}(h:∀ W L μ,VR W L μ (.bool b) w)(W:World):w=.bool b:=by
 have:=h W (fun _=>False) nomu
 cases this with
 |dead h1=>cases h1
 |bool=>rfl
section
variable {H:Type} {enc:TypeId × Value→H} {w:World} {base:Nat} {spare:Nat→Bool} {held:Bool} {fuel:Nat} {cs:List Value}
theorem list4 {cs:List Value}(h:cs.length=4):∃ a b c d,cs=[a,b,c,d]:=by
 match cs,h with|[a,b,c,d],_=>exact ⟨a,b,c,d,rfl⟩
theorem yck:Tryz.prog.cellsOf 64=2:=by kernel_rfl
theorem ydu:Tryz.prog.cellsOf 26=1:=by kernel_rfl
theorem yga:Tryz.prog.cellsOf 28=4:=by kernel_rfl
def caR (c:Ld.Cart):List Value:=[.int .i64 c.load,.int .i64 c.due]
theorem ygt (h:∃ y,DataW.trod enc Tryz.prog w base spare held fuel 64 cs=some y):∃ p,cs=caR p:=by
 obtain ⟨y,h⟩:=h
 obtain ⟨xs,n,rfl,_,hl,hx,hf⟩:=DataW.trod_struct Tryz.underlying64 h
 rw[yck] at hl
 have hx:xs.length=2:=hx
 obtain ⟨c0,c1,rfl⟩:=list2 hl
 clear hl
 obtain ⟨a,ha⟩:=trod_i ⟨_,(hf 0 _ rfl).trans (List.getElem?_eq_getElem (by omega))⟩
 obtain ⟨b,hb⟩:=trod_i ⟨_,(hf 1 _ rfl).trans (List.getElem?_eq_getElem (by omega))⟩
 simp[zhj] at ha hb
 exact ⟨⟨a,b⟩,by rw[ha,hb];rfl⟩
theorem yen (h:∃ y,DataW.trod enc Tryz.prog w base spare held fuel 26 cs=some y):∃ (l:List Ld.Cart) (x:Value),cs=[x]∧VR w (fun _=>False) nomu (.vs 2 (l.map cE)) x:=
 row_vr (k := 2) default caR cE (by decide) (fun _ => rfl) (fun _ => rfl) (fun y => zmv fun j x r h1 h2 => by
  match j,h1,h2 with
  |0,h1,h2=>cases h1;cases h2;exact ⟨_,rfl,rfl⟩
  |1,h1,h2=>cases h1;cases h2;exact ⟨_,rfl,rfl⟩
  |j+2,h1,h2=>simp[caR] at h2) Tryz.underlying26 yck (fun _ _ h=>ygt h) h
theorem yem (h:∃ y,DataW.trod enc Tryz.prog w base spare held fuel 25 cs=some y):∃ (r:Rd.Road) (x z:Value),cs=[x,z]∧VR w (fun _=>False) nomu (.vs 7 (r.parts.map ptE)) x∧VR w (fun _=>False) nomu (.vs 7 (r.events.map evE)) z:=by
 obtain ⟨y,h⟩:=h
 obtain ⟨xs,n,rfl,_,hl,hx,hf⟩:=DataW.trod_struct Tryz.underlying25 h
 rw[zrd] at hl
 have hx:xs.length=2:=hx
 obtain ⟨c0,c1,rfl⟩:=list2 hl
 clear hl
 obtain ⟨ps,x,hp,hvp⟩:=zoo ⟨_,(hf 0 _ rfl).trans (List.getElem?_eq_getElem (by omega))⟩
 obtain ⟨es,z,he,hve⟩:=zlj ⟨_,(hf 1 _ rfl).trans (List.getElem?_eq_getElem (by omega))⟩
 simp[zmn,zla] at hp he
 rw[hp,he]
 exact ⟨⟨ps,es⟩,x,z,rfl,hvp,hve⟩
theorem trod_load (h:∃ y,DataW.trod enc Tryz.prog w base spare held fuel 28 cs=some y):∃ l:Ld.Lo,VR w (fun _=>False) nomu (.agg (loadCs l)) (.agg cs.toArray):=by
 obtain ⟨y,h⟩:=h
 obtain ⟨xs,n,rfl,_,hl,hx,hf⟩:=DataW.trod_struct Tryz.underlying28 h
 rw[yga] at hl
 have hx:xs.length=3:=hx
 obtain ⟨c0,c1,c2,c3,rfl⟩:=list4 hl
 clear hl
 obtain ⟨r,x,z,hr,hvp,hve⟩:=yem ⟨_,(hf 0 _ rfl).trans (List.getElem?_eq_getElem (by omega))⟩
 obtain ⟨d,hd⟩:=trod_i ⟨_,(hf 1 _ rfl).trans (List.getElem?_eq_getElem (by omega))⟩
 obtain ⟨es,u,he,hvc⟩:=yen ⟨_,(hf 2 _ rfl).trans (List.getElem?_eq_getElem (by omega))⟩
 simp[zrd,zhj,ydu] at hr hd he
 obtain ⟨hr1,hr2⟩:=hr
 rw[hr1,hr2,hd,he]
 refine ⟨⟨r,d,es⟩,.agg rfl fun i v q h1 h2=>?_⟩
 match i,h1,h2 with
 |0,h1,h2=>cases h1;cases h2;exact hvp
 |1,h1,h2=>cases h1;cases h2;exact hve
 |2,h1,h2=>cases h1;cases h2;exact .int
 |3,h1,h2=>cases h1;cases h2;exact hvc
 |i+4,h1,h2=>simp at h2
end
end Ro
end Ev
set_option maxRecDepth 100000 in
theorem zlt:ownKnob Tryz.prog.godebug=none:=by kernel_rfl
set_option maxRecDepth 100000 in
theorem laidOut':laidOutB Tryz.prog=true:=by kernel_rfl
def noLoad:Value:=.agg #[.slice none 0 0,.slice none 0 0,.int .i64 0,.slice none 0 0]
set_option maxRecDepth 100000 in
theorem yhh {H:Type}{enc:TypeId × Value→H}{W:World}{v:Value}{d:DataW H}{p:List MemPlace}{base:Nat}
  (hv:Value.okWide Tryz.prog W .any base 28 v) (h:DataW.Trod enc Tryz.prog W 0 (fun _=>true) true 28 v d p):∃ l:Ld.Lo,Ev.VR W (fun _=>False) Ev.nomu (.agg (Ev.Ro.loadCs l)) v:=by
 obtain ⟨cs,rfl,_⟩:=okWide_struct Tryz.underlying28 hv
 obtain ⟨fuel,hf⟩:=h
 obtain ⟨c,hc⟩:=Ev.Ro.trod_load (cs:=cs.toList) ⟨_,hf⟩
 exact ⟨c,by simpa using hc⟩
theorem yii {n:Int}(h:(Lit.int .u8 n).wf=true):0≤n∧n≤255:=by
 simp[Lit.wf,IntKind.min,IntKind.max,IntKind.signed,IntKind.bits] at h
 omega
end Go.Proofs.YtfpepkbflnendaaGreat
namespace Go.Proofs.YtfpepkbflnendaaGreat
open Go Go.Proofs Go.ChangeShapes Go.WideShapes Go.ChangeAt Go.RowKit
namespace Ev
namespace Ro
open K
theorem lawLoadAll (W:World)(l:Ld.Lo){v0:Value}(hv0:VR W (fun _=>False) nomu (.agg (loadCs l)) v0)(x1:Int)(b1:(Lit.int .u8 x1).wf=true){v1:Value}(hv1:VR W (fun _=>False) nomu (.int .u8 x1) v1):CallsIn Fence.wide 0 Tryz.prog 8 #[v0,v1] W fun e W'=>e=.returned (.bool true)∧Below W.heap.size W W':=by
 have hz:∀ {f:Nat} {af:AFunc},(cfgL treeLoadAll).exth f=none→FT.find treeLoadAll f=some af→Has (cfgL treeLoadAll) f af:=fun h1 h2=>has_of rfl h1 h2 rfl
 have la:=fun n=>lapi (t:=treeLoadAll) (hz rfl (by kernel_rfl)) n
 have k:Has (cfgL treeLoadAll) 8 af8:=hz rfl (by kernel_rfl)
 obtain ⟨v,hp,tc,H',h1,h2,_⟩:=zbm (C:=cfgL treeLoadAll) (n:=12) (first:=[]) (captured:=[]) (args:=[.agg (loadCs l),.int .u8 x1]) (H:=[]) (Q:=fun v _ _=>v=.bool true) rfl k.ext k.exth k.fns k.whole (le' rfl) (yms (cfgL treeLoadAll) rfl _ (la 11) (ymr rfl (hz rfl (by kernel_rfl)) (la 10)) (fun l hv hr c hcn=>ymz rfl (fun _=>rfl) (hz rfl (by kernel_rfl)) (hz rfl (by kernel_rfl)) (hz rfl (by kernel_rfl)) (hz rfl (by kernel_rfl)) la l hv hr c hcn) l x1 (yii b1))
 subst h2
 refine (zjm (tblL ymh) h1 trivial (zbh _ _ _) (rargs:=#[v0,v1]) ⟨rfl,fun i y r hy hr=>?_⟩).mono ?_
 ·match i,hy,hr with
  |0,hy,hr=>cases hy;cases hr;exact hv0
  |1,hy,hr=>cases hy;cases hr;exact hv1
  |i+2,hy,hr=>simp at hy
 ·rintro e W' ⟨⟨w,rfl,hw⟩,bel⟩
  exact ⟨by rw[yas hw W],bel⟩
end Ro
end Ev
set_option maxRecDepth 100000 in
theorem ymi (os:Os)(started:os.Started)(H:Type)(enc:TypeId × Value→H):
  ReturnsInHanded {} Tryz.checked os 8 .any (Rows.loadAllSpec.pre6 enc Tryz.prog Tryz.f8 Rows.loadAllRow.domain false) (Rows.loadAllSpec.post enc Tryz.prog Tryz.f8 false true false false):=by
 refine returnsInHanded_of_change (C:=Tryz.checked) zlt started (by kernel_rfl) Tryz.func8
  (ChangeSpec.witness6 (enc:=enc) (C:=Tryz.checked) false ⟨#[],#[noLoad,.int .u8 0],[]⟩ 8 (by kernel_rfl) (by kernel_rfl) (by kernel_rfl) (by kernel_rfl)) ?_
 intro W base args ds gs before hval0 hW hcnd _
 have hval:∀ (j:Nat) t v,Tryz.f8.params[j]?=some t→args[j]?=some v→Value.okWide Tryz.prog W .any base t v:=hval0
 have hW':=hW
 obtain ⟨p,q,hA0,hV,rfl,hfz,hnd⟩:=hW
 have hA:DataW.TrodAll enc Tryz.prog W 0 (fun _=>true) true Tryz.f8.params.toList args.toList ds p:=hA0
 rw[Tryz.params8] at hA hval
 obtain ⟨v0,vs0,d0,ds0,p0,q0,hargs0,rfl,rfl,h0,hA1⟩:=trodAll_cons hA
 obtain ⟨v1,vs1,d1,ds1,p1,q1,rfl,rfl,rfl,h1,hA2⟩:=trodAll_cons hA1
 obtain ⟨rfl,rfl,rfl⟩:=trodAll_nil hA2
 obtain rfl:args=#[v0,v1]:=Array.ext' hargs0
 obtain ⟨rfl,rfl,rfl⟩:=trodVars_none hV
 clear hA0 hval0
 obtain ⟨l,hx0⟩:=yhh (hval 0 28 v0 rfl rfl) h0
 obtain ⟨x1,rfl,rfl,rfl,wf1⟩:=open_int Tryz.underlying5 (hval 1 5 v1 rfl rfl) h1
 simp only[List.append_nil] at hW'
 have hlt:∀ x∈(p0++([]++[])),x.block<W.heap.size:=fun x hx=>by simpa using hW'.lt x (by simpa using hx)
 refine (callsIn_wide.1 (Ev.Ro.lawLoadAll W l hx0 x1 wf1 .int)).mono fun e W' ⟨he,bel⟩=>?_
 subst he
 refine ⟨_,rfl,_,_,_,[],(p0++([]++[])),[],by simpa using hW',?_,?_,?_,bel.frame _,fun h=>by cases h⟩
 ·exact trodAll_mk1 (shut_bool Tryz.underlying4 true)
 ·exact trodAll_cons_mk (Below.trod laidOut' (by kernel_rfl) (of_decide_eq_true (by kernel_rfl)) h0 bel (fun x hx=>hlt x (by simp[hx]))) (trodAll_cons_mk (shut_int Tryz.underlying5 wf1) (trodAll_mk0))
 ·exact rfl
theorem loadAll_holds:Rows.LoadAllSaid:=
 OpenClaim.holds_of_wide 8 Tryz.f8 rfl rfl rfl rfl rfl rfl rfl ⟨rfl,rfl,rfl,rfl,rfl⟩ rfl rfl rfl rfl rfl (by kernel_rfl) Tryz.func8 (by kernel_rfl)
  (of_decide_eq_true (by kernel_rfl)) (by unfold Func.isWrapper;first|(rw[if_pos (by decide +kernel)];kernel_rfl)|(rw[if_neg (by decide +kernel)];exact ⟨rfl,rfl⟩))
  (fun os started H enc _=>ymi os started H enc)
#print axioms loadAll_holds
end Go.Proofs.YtfpepkbflnendaaGreat
