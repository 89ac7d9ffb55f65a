/- What the truths of clamps are, and what is returned of them. -/
import Derived.Test.YtlcjlcllbgjplaaRtEA
import Derived.CallsIn
/- The evaluator, gone through with values that are not known: temporaries as lists of pairs, rules for code. -/
namespace Go.Proofs.Ytlcjlcllbgjplaa
open Go
namespace Ev
def tmA (N:Nat):List (Nat × AV)→List AV
  |[]=>List.replicate N .unk
  |(t,v)::l=>(tmA N l).set t v
@[simp] theorem zlp (N:Nat):∀ l,(tmA N l).length=N
  |[]=>by simp[tmA]
  |(t,v)::l=>by simp[tmA,zlp N l]
theorem zal (N t t':Nat)(v:AV)(l:List (Nat × AV)):(tmA N ((t,v)::l)).getD t' .unk=if t'=t then (if t<N then v else .unk) else (tmA N l).getD t' .unk:=by
  simp only[tmA,List.getD_eq_getElem?_getD,List.getElem?_set,zlp]
  by_cases h:t=t'
  · subst h;simp;split<;>simp
  · rw[if_neg h,if_neg fun e=>h e.symm]
theorem zjr (N t:Nat):(tmA N []).getD t .unk=.unk:=by
  simp only[tmA,List.getD_eq_getElem?_getD,List.getElem?_replicate]
  split<;>rfl
theorem zaa (C:Cfg)(N t t':Nat)(v:AV)(l:List (Nat × AV)):val C (tmA N ((t,v)::l)) (.tmp t')=if t'=t then (if t<N then v else .unk) else val C (tmA N l) (.tmp t'):=zal N t t' v l
theorem zas (C:Cfg)(N t:Nat):val C (tmA N []) (.tmp t)=.unk:=zjr N t
theorem zbc (C:Cfg)(tm:List AV)(v:AV):val C tm (.val v)=v:=rfl
theorem zaw (N t:Nat)(v:AV)(l:List (Nat × AV)):putT (tmA N l) (some t) v=tmA N ((t,v)::l):=rfl
theorem zav (tm:List AV)(v:AV):putT tm none v=tm:=rfl
def zipI:Nat→List AV→List (Nat × AV)→List (Nat × AV)
  |_,[],acc=>acc
  |i,v::l,acc=>zipI (i+1) l ((i,v)::acc)
theorem zks (N:Nat)(f:Nat→AV):∀ (live:List Nat) (acc:List (Nat × AV)),live.foldl (fun a t=>a.set t (f t)) (tmA N acc)=tmA N (live.foldl (fun a t=>(t,f t)::a) acc)
  |[],_=>rfl
  |t::l,acc=>by
    simp only[List.foldl_cons]
    exact zks N f l ((t,f t)::acc)
def lk (N:Nat)(l:List (Nat × AV))(t:Nat):AV:=(tmA N l).getD t .unk
theorem zaq (N t t':Nat)(v:AV)(l:List (Nat × AV)):lk N ((t,v)::l) t'=if t'=t then (if t<N then v else .unk) else lk N l t':=zal N t t' v l
theorem zzn (N:Nat)(l:List (Nat × AV))(t:Nat):(tmA N l).getD t .unk=lk N l t:=rfl
theorem zap (N:Nat)(live:List Nat)(l:List (Nat × AV)):keepT live (tmA N l)=tmA N (live.foldl (fun a t=>(t,lk N l t)::a) []):=by
  unfold keepT
  rw[zlp]
  exact zks N (fun t=>(tmA N l).getD t .unk) live []
theorem zrs (N:Nat):∀ (args:List AV) (i:Nat) (acc:List (Nat × AV)),tmA N (zipI i args acc)=(args.zipIdx i).foldl (fun tm p=>tm.set p.2 p.1) (tmA N acc)
  |[],_,_=>rfl
  |v::l,i,acc=>by
    simp only[zipI,List.zipIdx_cons,List.foldl_cons]
    exact zrs N l (i+1) ((i,v)::acc)
theorem znw:∀ (args pre:List AV) (m:Nat),args.length≤m→(args.zipIdx pre.length).foldl (fun tm p=>tm.set p.2 p.1) (pre++List.replicate m AV.unk)=pre++(args++List.replicate (m - args.length) .unk)
  |[],pre,m,_=>by simp
  |v::l,pre,0,h=>by simp at h
  |v::l,pre,m+1,h=>by
    simp only[List.zipIdx_cons,List.foldl_cons]
    have e:(pre++List.replicate (m+1) AV.unk).set pre.length v=(pre++[v])++List.replicate m .unk:=by
      rw[List.set_append_right _ _ (Nat.le_refl _),Nat.sub_self,List.replicate_succ]
      simp
    rw[e]
    have:=znw l (pre++[v]) m (by simpa using h)
    simp only[List.length_append,List.length_cons,List.length_nil,Nat.zero_add] at this
    rw[this]
    simp
theorem zyi {N:Nat}{args:List AV}(h:args.length≤N):args++List.replicate (N - args.length) .unk=tmA N (zipI 0 args []):=by
  rw[zrs]
  have:=znw args [] N h
  simp only[List.length_nil,List.nil_append] at this
  rw[← this];rfl

theorem nat_nn (d:Nat):((d:Int)<0)=False:=by simp

def Does (o:Option (AExit × St))(Q:AExit→St→Prop):Prop:=∃ e st,o=some (e,st)∧Q e st
def DoesO (o:Option (Option AV × St))(Q:Option AV→St→Prop):Prop:=∃ r st,o=some (r,st)∧Q r st
theorem Does.mono {o:Option (AExit × St)}{Q R:AExit→St→Prop}(h:Does o Q)(k:∀ e st,Q e st→R e st):Does o R:=by
  obtain ⟨e,st,h1,h2⟩:=h;exact ⟨e,st,h1,k e st h2⟩
section
variable {C:Cfg} {call:CallF} {pin:Nat} {rd:Option Nat} {Q:AExit→St→Prop} {st:St} {a b c:AC}
def Then (C:Cfg)(call:CallF)(pin:Nat)(rd:Option Nat)(b:AC)(Q:AExit→St→Prop):AExit→St→Prop
  |.normal,st=>Does (ev C call pin rd b st) Q
  |e,st=>Q e st
def OutB (id:Nat)(Q:AExit→St→Prop):AExit→St→Prop
  |.exit i,st=>if i=id then Q .normal st else Q (.exit i) st
  |e,st=>Q e st
def Ops (Q:AExit→St→Prop):Option AV→St→Prop
  |none,st=>Q .normal st
  |some v,st=>Q (.panic v) st
theorem zaf (h:Q .normal st):Does (ev C call pin rd .skip st) Q:=⟨_,_,rfl,h⟩
theorem zag {id:Nat}(h:Q (.exit id) st):Does (ev C call pin rd (.exit id) st) Q:=⟨_,_,rfl,h⟩
theorem zaj (h:Q .ret st):Does (ev C call pin rd .ret st) Q:=⟨_,_,rfl,h⟩
theorem zai (h:Does (ev C call pin rd a st) (Then C call pin rd b Q)):Does (ev C call pin rd (.seq a b) st) Q:=by
  obtain ⟨e,st1,h1,h2⟩:=h
  unfold Does
  simp only[ev,h1]
  cases e<;>simp only[Then] at h2
  · exact h2
  · exact ⟨_,_,rfl,h2⟩
  · exact ⟨_,_,rfl,h2⟩
  · exact ⟨_,_,rfl,h2⟩
theorem zae {x:Opnd}(hx:val C st.tm x=.bool true)(h:Does (ev C call pin rd a st) Q):Does (ev C call pin rd (.cond x a b) st) Q:=by
  unfold Does at h ⊢
  simp only[ev,hx,cond_true]
  exact h
theorem zab {x:Opnd}(hx:val C st.tm x=.bool false)(h:Does (ev C call pin rd b st) Q):Does (ev C call pin rd (.cond x a b) st) Q:=by
  unfold Does at h ⊢
  simp only[ev,hx,cond_false]
  exact h
theorem zac {id:Nat}(h:Does (ev C call pin rd a st) (OutB id Q)):Does (ev C call pin rd (.block id a) st) Q:=by
  obtain ⟨e,st1,h1,h2⟩:=h
  unfold Does
  simp only[ev,h1]
  cases e with
  |exit i=>
    simp only[OutB] at h2
    split at h2
    · rename_i hi;simp only[hi,if_true];exact ⟨_,_,rfl,h2⟩
    · rename_i hi;simp only[hi,if_false];exact ⟨_,_,rfl,h2⟩
  |normal=>exact ⟨_,_,rfl,h2⟩
  |ret=>exact ⟨_,_,rfl,h2⟩
  |panic v=>exact ⟨_,_,rfl,h2⟩
theorem zak {l:List AOp}(h:DoesO (evOps C call pin rd.isSome false l [] st) (Ops Q)):Does (ev C call pin rd (.ops l) st) Q:=by
  obtain ⟨r,st1,h1,h2⟩:=h
  unfold Does
  simp only[ev,h1,Option.map_some]
  cases r with
  |none=>exact ⟨_,_,rfl,h2⟩
  |some v=>exact ⟨_,_,rfl,h2⟩
theorem zah {l:List AOp}(h:DoesO (evOps C call pin rd.isSome true l [] st) (fun r st=>match r with|none=>Q .normal st|some v=>Q (.panic v) { st with tm:=forget (l.filterMap (·.dst)) st.tm })):Does (ev C call pin rd (.draw l) st) Q:=by
  obtain ⟨r,st1,h1,h2⟩:=h
  unfold Does
  simp only[ev,h1,Option.map_some]
  cases r with
  |none=>exact ⟨_,_,rfl,h2⟩
  |some v=>exact ⟨_,_,rfl,h2⟩
variable {nod drawn:Bool} {fl:List (Nat × List Nat)} {R:Option AV→St→Prop} {o:AOp} {l:List AOp}
theorem zam (h:R none st):DoesO (evOps C call pin nod drawn [] fl st) R:=⟨_,_,rfl,h⟩
theorem zad {ft:Option (List Nat)}{st1:St}(h1:ev1 C call pin nod drawn fl o st=some (.next ft st1))(h:DoesO (evOps C call pin nod drawn l (addFl o.ix ft fl) st1) R):DoesO (evOps C call pin nod drawn (o::l) fl st) R:=by
  unfold DoesO at h ⊢
  simp only[evOps,h1]
  exact h
theorem zbb {v:AV}{st1:St}(h1:ev1 C call pin nod drawn fl o st=some (.pan v st1))(h:R (some v) st1):DoesO (evOps C call pin nod drawn (o::l) fl st) R:=by
  unfold DoesO
  simp only[evOps,h1]
  exact ⟨_,_,rfl,h⟩
theorem zle {live:List Nat}(I:Nat→St→Prop)(k:Nat)(hk:k<fuelL)(h0:I k (gcC C pin { st with tm:=keepT live st.tm }))
    (hround:∀ k st,I k st→Does (ev C call pin rd c st) (fun e st'=>match e with|.normal=>∃ k',k=k'+1∧I k' (gcC C pin { st' with tm:=keepT live st'.tm })|e=>Q e st')):Does (ev C call pin rd (.loop live c) st) Q:=by
  have main:∀ (n k:Nat) (st:St),k<n→I k (gcC C pin { st with tm:=keepT live st.tm })→∃ e st',loopN (ev C call pin rd c) (fun st=>gcC C pin { st with tm:=keepT live st.tm }) n st=some (e,st')∧Q e st':=by
    intro n
    induction n with
    |zero=>intro k st hk;omega
    |succ n ih=>
      intro k st hk hI
      obtain ⟨e,st1,h1,h2⟩:=hround k _ hI
      simp only[loopN,h1]
      cases e with
      |normal=>
        obtain ⟨k',rfl,h3⟩:=h2
        exact ih k' st1 (by omega) h3
      |exit i=>exact ⟨_,_,rfl,h2⟩
      |ret=>exact ⟨_,_,rfl,h2⟩
      |panic v=>exact ⟨_,_,rfl,h2⟩
  obtain ⟨e,st',h1,h2⟩:=main fuelL k st hk h0
  unfold Does
  simp only[ev]
  exact ⟨e,st',h1,h2⟩
end
theorem zfc {C:Cfg}(h:C.calm=true)(pin:Nat)(st:St):gcC C pin st=st:=by
  unfold gcC;rw[h];rfl
theorem zdz {C:Cfg}(h:C.calm=true)(pin:Nat)(x:CRes)(hp:List AB):tidyC C pin x hp=(x,hp):=by
  unfold tidyC;rw[h];rfl

def CallsTo (C:Cfg)(n:Nat)(f:AV)(args:List AV)(H:List AB)(R:CRes→List AB→List Nat→Prop):Prop:=∃ x H' tc,Ev.call C n f args H=some (x,H',tc)∧R x H' tc
def Left (H:List AB)(x:CRes)(st:St)(R:CRes→List AB→List Nat→Prop):Prop:=if bareQ x.val st.tc then R x H [] else R x (overH H st.hp st.tc++st.hp.drop H.length) st.tc
theorem zzx {C:Cfg}{n f:Nat}{first captured args:List AV}{H:List AB}{R:CRes→List AB→List Nat→Prop}{fn:AFunc}(hc:C.calm=true)(hx:C.ext f=none)(hxh:C.exth f=none)(hf:C.fns f=some fn)(hw:C.whole f=true)
    (hlen:(first++args++captured).length≤fn.ntmps)
    (h:Does (ev C (Ev.call C n) H.length none fn.body { tm:=tmA fn.ntmps (zipI 0 (first++args++captured) []),df:=[],hp:=H,tc:=[] }) fun e st=>∃ x st',finish C H.length fn e st=some (x,st')∧Left H x st' R):
    CallsTo C (n+1) (.fn (.func f) first captured) args H R:=by
  obtain ⟨e,st,h1,x,st',h2,h3⟩:=h
  unfold CallsTo
  simp only[Ev.call,enter,hx,hxh,hf,hw,cond_true]
  rw[zyi hlen,h1]
  simp only[h2]
  unfold Left at h3
  split at h3
  · rename_i hb;rw[hb];exact ⟨_,_,_,rfl,h3⟩
  · rename_i hb
    rw[Bool.not_eq_true] at hb
    rw[hb]
    simp only[cond_false,zdz hc]
    exact ⟨_,_,_,rfl,h3⟩
end Ev
end Go.Proofs.Ytlcjlcllbgjplaa

/- Rules for loops over functions, with values that are not known. -/
namespace Go.Proofs.Ytlcjlcllbgjplaa
open Go
namespace Ev
section
variable {C:Cfg} {call:CallF} {pin:Nat} {rd:Option Nat} {Q:AExit→St→Prop} {st:St}
def RgEnd (pin l:Nat)(df:List ADef)(st:St)(Q:AExit→St→Prop):CRes→List AB→List Nat→Prop
  |.ret _,H,tc=>∃ r,H[l]?=some (.loop r)∧r.st≠.busy∧Q (r.pend.getD .normal) { st with df:=df,hp:=H.set l .dead,tc:=tc.filter (·<pin)++st.tc }
  |.pan v,H,tc=>Q (.panic v) { st with df:=df,hp:=H,tc:=tc.filter (·<pin)++st.tc }
theorem zqu {g:Opnd}{ps:List Nat}{as bd:AC}{gf:Nat}{first captured:List AV}(hg:val C st.tm g=.fn (.func gf) first captured)
    (h:∃ x H tc,call (.fn (.func gf) first captured) [.yield (st.hp.length+1)] (st.hp++[.dfr]++[.loop ⟨.ready,none,st.tm,ps,as,bd,st.hp.length⟩])=some (x,H,tc)∧RgEnd pin (st.hp.length+1) (.mark st.hp.length::st.df) st Q x H tc):
    Does (ev C call pin none (.rangeF g ps as bd) st) Q:=by
  obtain ⟨x,H,tc,h1,h2⟩:=h
  unfold Does
  simp only[ev,hg,List.length_append,List.length_cons,List.length_nil,Nat.zero_add]
  rw[h1]
  cases x with
  |ret w=>
    obtain ⟨r,e1,e2,e3⟩:=h2
    simp only[e1,e2,if_false]
    exact ⟨_,_,rfl,e3⟩
  |pan w=>exact ⟨_,_,rfl,h2⟩
end
def RdEnd (l:Nat)(H:List AB)(R:CRes→List AB→List Nat→Prop):AExit→St→Prop
  |.panic _,_=>False
  |.normal,st=>∃ r,st.hp[l]?=some (.loop r)∧R (.ret (.bool true)) (overH H (st.hp.set l (.loop { r with st:=.ready,pend:=none })) (l::st.tc)++(st.hp.set l (.loop { r with st:=.ready,pend:=none })).drop H.length) (l::st.tc)
  |e,st=>∃ r,st.hp[l]?=some (.loop r)∧R (.ret (.bool false)) (overH H (st.hp.set l (.loop { r with st:=.done,pend:=some e })) (l::st.tc)++(st.hp.set l (.loop { r with st:=.done,pend:=some e })).drop H.length) (l::st.tc)
theorem zxb {C:Cfg}{n l:Nat}{args:List AV}{H:List AB}{R:CRes→List AB→List Nat→Prop}{r:ALoop}(hc:C.calm=true)(hl:H[l]?=some (.loop r))(hr:r.st=.ready)(hn:args.length=r.params.length)
    (h : Does (ev C (Ev.call C n) H.length (some l) r.assign { tm := setParams r.tm r.params args, df := [], hp := H, tc := [] }) fun e st => e = .normal ∧ ∃ r1, st.hp[l]? = some (.loop r1) ∧ r1.st = .ready ∧
      Does (ev C (Ev.call C n) H.length (some l) r.body { st with hp:=st.hp.set l (.loop { r1 with st:=.busy }),tc:=l::st.tc }) (RdEnd l H R)):
    CallsTo C (n+1) (.yield l) args H R:=by
  obtain ⟨e,st,h1,rfl,r1,h2,h3,e2,st2,h4,h5⟩:=h
  unfold CallsTo
  simp only[Ev.call,round,hl,hr,hn,and_self,if_true,h1,h2,h3,h4]
  cases e2 with
  |panic v=>exact h5.elim
  |normal=>
    obtain ⟨r2,e1,e2⟩:=h5
    simp only[e1,Option.isNone_none,if_true,zdz hc]
    exact ⟨_,_,_,rfl,e2⟩
  |exit i=>
    obtain ⟨r2,e1,e2⟩:=h5
    simp only[e1,Option.isNone_some,Bool.false_eq_true,if_false,zdz hc]
    exact ⟨_,_,_,rfl,e2⟩
  |ret=>
    obtain ⟨r2,e1,e2⟩:=h5
    simp only[e1,Option.isNone_some,Bool.false_eq_true,if_false,zdz hc]
    exact ⟨_,_,_,rfl,e2⟩
theorem zpr (H hp:List AB)(j:Nat)(tc:List Nat):overH H hp (j::tc)=(overH H hp tc).set j (hp.getD j .dead):=rfl
theorem zbk (H hp:List AB):∀ tc,(overH H hp tc).length=H.length
  |[]=>rfl
  |j::tc=>by simp[overH,zbk H hp tc]
end Ev
end Go.Proofs.Ytlcjlcllbgjplaa

/- Calls that turn memory, with values that are not known: what they leave. -/
namespace Go.Proofs.Ytlcjlcllbgjplaa
open Go
namespace Ev
structure Kp (S:List Nat) (H H':List AB):Prop where
  len:H.length≤H'.length
  get:∀ b,b<H.length→b∉S→H'[b]?=H[b]?
theorem Kp.refl (S:List Nat)(H:List AB):Kp S H H:=⟨Nat.le_refl _,fun _ _ _=>rfl⟩
theorem Kp.trans {S:List Nat}{H G K:List AB}(h:Kp S H G)(g:Kp S G K):Kp S H K:=
  ⟨Nat.le_trans h.len g.len,fun b hb hs=>(g.get b (Nat.lt_of_lt_of_le hb h.len) hs).trans (h.get b hb hs)⟩
theorem Kp.mono {S T:List Nat}{H G:List AB}(h:Kp S H G)(hs:∀ b,b<H.length→b∈S→b∈T):Kp T H G:=⟨h.len,fun b hb hn=>h.get b hb fun hh=>hn (hs b hb hh)⟩
theorem Kp.trans2 {S T:List Nat}{H G K:List AB}(h:Kp S H G)(g:Kp T G K):Kp (T.filter (·<H.length)++S) H K:=
  ⟨Nat.le_trans h.len g.len, fun b hb hs => by
    rw[List.mem_append,List.mem_filter,not_or] at hs
    exact (g.get b (Nat.lt_of_lt_of_le hb h.len) fun h'=>hs.1 ⟨h',by simpa using hb⟩).trans (h.get b hb hs.2)⟩
theorem Kp.app {S:List Nat}(H K:List AB):Kp S H (H++K):=⟨by simp,fun b hb _=>List.getElem?_append_left hb⟩
theorem Kp.set {S:List Nat}{H G:List AB}(h:Kp S H G)(i:Nat)(v:AB)(hi:i<H.length→i∈S):Kp S H (G.set i v):=
  ⟨by simpa using h.len, fun b hb hs => by
    rw[List.getElem?_set_ne (fun e=>by subst e;exact hs (hi hb))];exact h.get b hb hs⟩
theorem Kp.pre {S:List Nat}{H K G:List AB}(h:Kp S (H++K) G):Kp S H G:=(Kp.app H K).trans h
theorem get_lt {H:List AB}{b:Nat}{x:AB}(h:H[b]?=some x):b<H.length:=(List.getElem?_eq_some_iff.1 h).1
theorem Kp.at {S:List Nat}{H G:List AB}(h:Kp S H G){b:Nat}{x:AB}(hx:H[b]?=some x)(hb:b∉S):G[b]?=some x:=(h.get b (get_lt hx) hb).trans hx
theorem bk {H:List AB}{b:Nat}{x:AB}(h:H[b]?=some x):b<H.length∧(∀ K,(H++K)[b]?=some x)∧(∀ n,b<H.length+n)∧(∀ K (h:b<(H++K).length),(H++K)[b]'h=x)∧(∀ h:b<H.length,H[b]'h=x):=by
  have hl:=get_lt h
  have h1:∀ K,(H++K)[b]?=some x:=fun K=>(List.getElem?_append_left hl).trans h
  refine ⟨hl,h1,fun n=>by omega,fun K hk=>?_,fun hh=>?_⟩
  · have:=h1 K;rw[List.getElem?_eq_getElem hk] at this;exact Option.some.inj this
  · rw[List.getElem?_eq_getElem hh] at h;exact Option.some.inj h
structure Bk (H:List AB) (b:Nat) (x:AB):Prop where
  lt:b<H.length
  get:H[b]?=some x
  app:∀ K,(H++K)[b]?=some x
  lts:∀ n,b<H.length+n
  ix:∀ K (h:b<(H++K).length),(H++K)[b]'h=x
  i0:∀ h:b<H.length,H[b]'h=x
theorem bk' {H:List AB}{b:Nat}{x:AB}(h:H[b]?=some x):Bk H b x:=⟨(bk h).1,h,(bk h).2.1,(bk h).2.2.1,(bk h).2.2.2.1,(bk h).2.2.2.2⟩
structure Lft (H hp:List AB) (tc:List Nat) (H':List AB):Prop where
  len:H.length≤H'.length
  old:∀ j,j<H.length→j∉tc→H'[j]?=H[j]?
  got:∀ j,j<H.length→j∈tc→H'[j]?=hp[j]?
theorem zge {H hp:List AB}{tc:List Nat}(hlen:H.length≤hp.length)(j:Nat):(overH H hp tc++hp.drop H.length)[j]?=if j<H.length∧j∉tc then H[j]? else hp[j]?:=by
  have main:∀ tc j,(overH H hp tc)[j]?=if j<H.length then (if j∈tc then hp[j]? else H[j]?) else none:=by
    intro tc
    induction tc with
    |nil=>
      intro j
      simp only[overH,List.not_mem_nil,if_false]
      split
      · rfl
      · rename_i h;rw[List.getElem?_eq_none (by omega)]
    |cons k tc ih=>
      intro j
      simp only[overH,List.getElem?_set,zbk,List.mem_cons]
      by_cases hkj:k=j
      · subst hkj
        by_cases hk:k<H.length
        · simp only[hk,if_true,true_or]
          rw[List.getD_eq_getElem?_getD,List.getElem?_eq_getElem (by omega)];rfl
        · simp only[hk,if_false,if_true]
      · have hjk:¬j=k:=fun e=>hkj e.symm
        simp only[hkj,hjk,if_false,ih,false_or]
  rw[List.getElem?_append,zbk]
  by_cases hj:j<H.length
  · rw[if_pos hj,main,if_pos hj]
    by_cases ht:j∈tc
    · simp[ht]
    · simp[ht,hj]
  · rw[if_neg hj,if_neg (by simp[hj]),List.getElem?_drop]
    congr 1;omega
theorem zxs {H hp:List AB}{tc:List Nat}(hlen:H.length≤hp.length):Lft H hp tc (overH H hp tc++hp.drop H.length):=
  ⟨by simp[zbk],fun j h1 h2=>by rw[zge hlen,if_pos ⟨h1,h2⟩],fun j h1 h2=>by rw[zge hlen,if_neg (by simp[h2])]⟩
theorem Lft.kp {H hp:List AB}{tc:List Nat}{H':List AB}(h:Lft H hp tc H'):Kp tc H H':=⟨h.len,h.old⟩
theorem Lft.same {H hp:List AB}{tc:List Nat}{H':List AB}(h:Lft H hp tc H')(k:Kp tc H hp)(j:Nat)(hj:j<H.length):H'[j]?=hp[j]?:=by
  by_cases ht:j∈tc
  · exact h.got j hj ht
  · rw[h.old j hj ht,k.get j hj ht]
theorem znq {C:Cfg}{n f:Nat}{fn:AFunc}{first captured args:List AV}{H:List AB}{Q:CRes→List AB→List Nat→Prop}(hc:C.calm=true)(hx:C.ext f=none)(hxh:C.exth f=none)(hf:C.fns f=some fn)(hw:C.whole f=true)
    (hlen:(first++args++captured).length≤fn.ntmps)
    (h:Does (ev C (Ev.call C n) H.length none fn.body { tm:=tmA fn.ntmps (zipI 0 (first++args++captured) []),df:=[],hp:=H,tc:=[] }) fun e st=>∃ x st',finish C H.length fn e st=some (x,st')∧H.length≤st'.hp.length∧Q x st'.hp st'.tc):
    ∃ x hp tc H',Ev.call C (n+1) (.fn (.func f) first captured) args H=some (x,H',tc)∧Q x hp tc∧Lft H hp tc H'∧(refs x.val≠[]∨tc≠[]→H'.length=hp.length∧∀ j,H.length≤j→H'[j]?=hp[j]?)∧(refs x.val=[]→tc=[]→H'=H):=by
  have := zzx (n := n) (R := fun x H' tc => ∃ hp, Q x hp tc ∧ Lft H hp tc H' ∧ (refs x.val ≠ [] ∨ tc ≠ [] → H'.length = hp.length ∧ ∀ j, H.length ≤ j → H'[j]? = hp[j]?) ∧ (refs x.val = [] → tc = [] → H' = H)) hc hx hxh hf hw hlen (by
    refine h.mono fun e st ⟨x,st',h1,h2,h3⟩=>⟨x,st',h1,?_⟩
    unfold Left
    split
    · rename_i hb
      simp only[bareQ,Bool.and_eq_true,List.isEmpty_iff] at hb
      rw[hb.1] at h3
      exact ⟨_,h3,⟨Nat.le_refl _,fun _ _ _=>rfl,fun j _ hj=>by cases hj⟩,fun hr=>hr.elim (absurd hb.2) (absurd rfl),fun _ _=>rfl⟩
    · rename_i hb
      exact ⟨_,h3,zxs h2,fun _=>⟨by simp[zbk];omega,fun j hj=>by rw[zge h2,if_neg (by omega)]⟩,fun h1 h2=>absurd (by simp[bareQ,h1,h2]) hb⟩)
  obtain ⟨x,H',tc,h1,hp,h2,h3,h4⟩:=this
  exact ⟨x,hp,tc,H',h1,h2,h3,h4⟩
def Ends (C:Cfg)(pin:Nat)(res:List ARes)(Q:AV→List AB→List Nat→Prop)(e:AExit)(st:St):Prop:=
  (e=.ret∨e=.normal)∧∃ st',runDefs C pin st.df none st=some (none,st')∧pin≤st'.hp.length∧∃ v,(resL st' res).map resV=some v∧Q v st'.hp st'.tc
theorem zer {C:Cfg}{pin:Nat}{fn:AFunc}{Q:AV→List AB→List Nat→Prop}{e:AExit}{st:St}(h:Ends C pin fn.res Q e st):∃ x st',finish C pin fn e st=some (x,st')∧pin≤st'.hp.length∧(∃ v,x=.ret v∧Q v st'.hp st'.tc):=by
  obtain ⟨he,st',h1,h2,v,h3,h4⟩:=h
  refine ⟨.ret v,st',?_,h2,v,rfl,h4⟩
  have : (match runDefs C pin st.df none st with
    |some (none,st)=>(resL st fn.res).map fun vs=>(CRes.ret (resV vs),st)
    |_=>none)=some (.ret v,st'):=by
    rw[h1]
    simp only
    cases hr:resL st' fn.res with
    |none=>rw[hr] at h3;cases h3
    |some vs=>rw[hr] at h3;cases h3;rfl
  rcases he with rfl|rfl<;>exact this
theorem zao {C:Cfg}{pin:Nat}{res:List ARes}{Q:AV→List AB→List Nat→Prop}{e:AExit}{st:St}{v:AV}(he:e=.ret∨e=.normal)(hd:st.df=[])(hl:pin≤st.hp.length)(hr:(resL st res).map resV=some v)(hq:Q v st.hp st.tc):Ends C pin res Q e st:=
  ⟨he,st,by rw[hd];rfl,hl,v,hr,hq⟩
theorem zpq {C:Cfg}{pin:Nat}{fn:AFunc}{v:AV}{st:St}(hd:st.df=[]):finish C pin fn (.panic v) st=some (.pan v,st):=by
  show (match runDefs C pin st.df (some v) st with
    |some (none,st)=>(resL st fn.res).map fun vs=>(CRes.ret (resV vs),st)
    |some (some v,st)=>some (.pan v,st)
    |none=>none)=_
  rw[hd];rfl
theorem zbw {C:Cfg}{n f:Nat}{fn:AFunc}{first captured args:List AV}{H:List AB}{Q:AV→List AB→List Nat→Prop}(hc:C.calm=true)(hx:C.ext f=none)(hxh:C.exth f=none)(hf:C.fns f=some fn)(hw:C.whole f=true)
    (hlen:(first++args++captured).length≤fn.ntmps)
    (h:Does (ev C (Ev.call C n) H.length none fn.body { tm:=tmA fn.ntmps (zipI 0 (first++args++captured) []),df:=[],hp:=H,tc:=[] }) (Ends C H.length fn.res Q)):
    ∃ v hp tc H',Ev.call C (n+1) (.fn (.func f) first captured) args H=some (.ret v,H',tc)∧Q v hp tc∧Lft H hp tc H'∧(refs v≠[]∨tc≠[]→H'.length=hp.length∧∀ j,H.length≤j→H'[j]?=hp[j]?)∧(refs v=[]→tc=[]→H'=H):=by
  obtain ⟨x,hp,tc,H',h1,⟨v,rfl,h2⟩,h3,h4⟩:=znq (Q:=fun x hp tc=>∃ v,x=.ret v∧Q v hp tc) hc hx hxh hf hw hlen (h.mono fun e st he=>zer he)
  exact ⟨v,hp,tc,H',h1,h2,h3,h4⟩
structure Rnd (H hp:List AB) (tc:List Nat) (l:Nat) (r:ALoop) (H':List AB):Prop where
  len:H.length≤H'.length
  here:H'[l]?=some (.loop r)
  old:∀ j,j<H.length→j∉tc→j≠l→H'[j]?=H[j]?
  got:∀ j,j<H.length→j∈tc→j≠l→H'[j]?=hp[j]?
  new:∀ j,H.length≤j→H'[j]?=hp[j]?
theorem zoo {C:Cfg}{n l:Nat}{args:List AV}{H:List AB}{r:ALoop}{Q:AExit→List AB→List Nat→Prop}(hc:C.calm=true)(hl:H[l]?=some (.loop r))(hr:r.st=.ready)(hpd:r.pend=none)(hn:args.length=r.params.length)
    (h : Does (ev C (Ev.call C n) H.length (some l) r.assign { tm := setParams r.tm r.params args, df := [], hp := H, tc := [] }) fun e st => e = .normal ∧ st.hp[l]? = some (.loop r) ∧
      Does (ev C (Ev.call C n) H.length (some l) r.body { st with hp:=st.hp.set l (.loop { r with st:=.busy }),tc:=l::st.tc }) fun e st=>(∀ v,e≠.panic v)∧st.hp[l]?=some (.loop { r with st:=.busy })∧H.length≤st.hp.length∧Q e st.hp st.tc):
    ∃ b e hp tc H',Ev.call C (n+1) (.yield l) args H=some (.ret (.bool b),H',l::tc)∧(b=true↔e=.normal)∧Q e hp tc∧Rnd H hp tc l (if b then r else { r with st:=.done,pend:=some e }) H':=by
  have key:∀ (st:St) (x:AB),H.length≤st.hp.length→∀ j,(overH H (st.hp.set l x) (l::st.tc)++(st.hp.set l x).drop H.length)[j]?=if j<H.length∧j∉l::st.tc then H[j]? else (st.hp.set l x)[j]?:=fun st x hl j=>zge (by simpa using hl) j
  have hll:=get_lt hl
  have fin : ∀ (st : St) (r' : ALoop), H.length ≤ st.hp.length → Rnd H st.hp st.tc l r' (overH H (st.hp.set l (.loop r')) (l :: st.tc) ++ (st.hp.set l (.loop r')).drop H.length) := fun st r' hlen => {
    len:=by simp[zbk]
    here:=by rw[key _ _ hlen,if_neg (by simp),List.getElem?_set_self (by omega)]
    old:=fun j h1 h2 h3=>by rw[key _ _ hlen,if_pos ⟨h1,by simp[h2,h3]⟩]
    got:=fun j h1 h2 h3=>by rw[key _ _ hlen,if_neg (by simp[h2]),List.getElem?_set_ne (by omega)]
    new:=fun j h1=>by rw[key _ _ hlen,if_neg (by omega),List.getElem?_set_ne (by omega)] }
  have := zxb (n := n) (R := fun x H' tc => ∃ b e hp tc', x = .ret (.bool b) ∧ tc = l :: tc' ∧ (b = true ↔ e = .normal) ∧ Q e hp tc' ∧ Rnd H hp tc' l (if b then r else { r with st := .done, pend := some e }) H') hc hl hr hn (h.mono fun e st ⟨h1, h2, h3⟩ => ⟨h1, r, h2, hr, h3.mono fun e st ⟨h4, h5, h6, h7⟩ => by
    have back:({ { r with st:=.busy } with st:=.ready,pend:=none }:ALoop)=r:=by
      obtain ⟨a,b,c,d,e,f,g⟩:=r
      simp only at hr hpd;subst hr hpd;rfl
    cases e with
    |panic v=>exact absurd rfl (h4 v)
    |normal=>
      refine ⟨_,h5,true,.normal,st.hp,st.tc,rfl,rfl,by simp,h7,?_⟩
      rw[back]
      exact fin st r h6
    |exit i=>
      exact ⟨_,h5,false,.exit i,st.hp,st.tc,rfl,rfl,by simp,h7,fin st _ h6⟩
    |ret=>
      exact ⟨_,h5,false,.ret,st.hp,st.tc,rfl,rfl,by simp,h7,fin st _ h6⟩⟩)
  obtain ⟨x,H',tc,h1,b,e,hp,tc',rfl,rfl,h2,h3,h4⟩:=this
  exact ⟨b,e,hp,tc',H',h1,h2,h3,h4⟩
theorem zbd (d:Nat):(0≤(d:Int)+1)=True:=by simp;omega
theorem ge_of {α:Type}{l:List α}{i:Nat}{x:α}(h:l[i]?=some x):∀ h':i<l.length,l[i]'h'=x:=fun h'=>by rw[List.getElem?_eq_getElem h'] at h;exact Option.some.inj h
theorem zba {C:Cfg}(hC:C.calm=true){call:CallF}{pin:Nat}{rd:Option Nat}{Q:AExit→St→Prop}{st:St}{c:AC}{live:List Nat}(n:Nat)(hn:n<fuelL)(P:Nat→St→Prop)(h0:P 0 { st with tm:=keepT live st.tm })
    (hround:∀ i st,i<n→P i st→Does (ev C call pin rd c st) (fun e st'=>match e with|.normal=>P (i+1) { st' with tm:=keepT live st'.tm }|e=>Q e st'))
    (hend:∀ st,P n st→Does (ev C call pin rd c st) (fun e st'=>match e with|.normal=>False|e=>Q e st')):Does (ev C call pin rd (.loop live c) st) Q:=by
  refine zle (fun q st=>q≤n∧P (n - q) st) n hn ⟨Nat.le_refl _,by rw[zfc hC,Nat.sub_self];exact h0⟩ ?_
  rintro q st ⟨hq,hP⟩
  by_cases h:q=0
  · subst h
    refine (hend st hP).mono fun e st' h=>?_
    cases e with
    |normal=>exact h.elim
    |exit i=>exact h
    |ret=>exact h
    |panic v=>exact h
  · refine (hround (n - q) st (by omega) hP).mono fun e st' h'=>?_
    cases e with
    |normal=>
      refine ⟨q - 1,by omega,by omega,?_⟩
      rw[zfc hC,show n - (q - 1)=n - q+1 by omega]
      exact h'
    |exit i=>exact h'
    |ret=>exact h'
    |panic v=>exact h'
theorem st_is {st:St}{tm:List AV}{df:List ADef}{hp:List AB}{tc:List Nat}(h1:st.tm=tm)(h2:st.df=df)(h3:st.hp=hp)(h4:st.tc=tc):st=⟨tm,df,hp,tc⟩:=by
  subst h1 h2 h3 h4;rfl
end Ev
end Go.Proofs.Ytlcjlcllbgjplaa

/- Loops over functions that yield, with values that are not known. 'n0': how long the heap was at the call. -/
namespace Go.Proofs.Ytlcjlcllbgjplaa
open Go
namespace Ev
structure Yields {α:Type} (call:CallF) (l n0:Nat) (T:List Nat) (arg:α→AV) (L:List α) (S:List Nat) (U:List AB→Prop) (J:List α→List Nat→List AB→Prop) (E:List α→List AB→Prop) (M:List α→Nat→Prop):Prop where
  stable:∀ d W H H',J d W H→(∀ j,j<H.length→j<n0∨j∈W→j∉S→H'[j]?=H[j]?)→U H'→J d W H'
  stableE:∀ d H H',E d H→(∀ j,j<n0→H'[j]?=H[j]?)→E d H'
  step:∀ d s W H,d++[s] <+: L→J d W H→∃ b H' tc W',call (.yield l) [arg s] H=some (.ret (.bool b),H',tc)∧l∈tc∧(∀ j∈tc,j∈T++W)∧Kp tc H H'∧(∀ j∈W',j∈W∨H.length≤j)∧(b=true→J (d++[s]) W' H')∧(b=false→E (d++[s]) H'∧U H')∧(∀ j,j<n0→M (d++[s]) j→M d j∨j∈tc)
theorem Rnd.same {H hp:List AB}{tc:List Nat}{l:Nat}{r:ALoop}{H':List AB}(h:Rnd H hp tc l r H')(k:Kp tc H hp)(j:Nat)(hj:j≠l):H'[j]?=hp[j]?:=by
  by_cases hl:j<H.length
  · by_cases ht:j∈tc
    · exact h.got j hl ht hj
    · rw[h.old j hl ht hj,k.get j hl ht]
  · exact h.new j (by omega)
theorem Rnd.kp {H hp : List AB} {tc : List Nat} {l : Nat} {r : ALoop} {H' : List AB} (h : Rnd H hp tc l r H') : Kp (l :: tc) H H' := ⟨h.len, fun b hb hs => by
  simp only[List.mem_cons,not_or] at hs
  exact h.old b hb hs.2 hs.1⟩
theorem setP1 (N t:Nat)(v:AV)(l:List (Nat × AV)):setParams (tmA N l) [t] [v]=tmA N ((t,v)::l):=rfl
theorem zbp {C:Cfg}{pin D:Nat}{res:List ARes}{Q:AV→List AB→List Nat→Prop}{e:AExit}{st:St}{v:AV}(he:e=.ret∨e=.normal)(hd:st.df=[.mark D])(hD:st.hp[D]?=some .dfr)(hp:pin≤D)(hl:pin≤st.hp.length)(hr:(resL { st with hp:=st.hp.set D .dead } res).map resV=some v)(hq:Q v (st.hp.set D .dead) st.tc):Ends C pin res Q e st:=by
  refine ⟨he,{ st with hp:=st.hp.set D .dead },?_,by simpa using hl,v,hr,hq⟩
  conv=>lhs;rw[hd]
  have:¬ D<pin:=by omega
  simp only[runDefs,hD,List.filter_cons,List.filter_nil,this,decide_false,Bool.false_eq_true,if_false,List.nil_append]
theorem zld {C:Cfg}{call:CallF}{pin:Nat}{Q:AExit→St→Prop}{st:St}{g:Opnd}{ps:List Nat}{as bd:AC}{gf:Nat}{first captured:List AV}(hg:val C st.tm g=.fn (.func gf) first captured)
    (h:∀ r:ALoop,r=⟨.ready,none,st.tm,ps,as,bd,st.hp.length⟩→∃ x H tc,call (.fn (.func gf) first captured) [.yield (st.hp.length+1)] (st.hp++[.dfr,.loop r])=some (x,H,tc)∧RgEnd pin (st.hp.length+1) (.mark st.hp.length::st.df) st Q x H tc):
    Does (ev C call pin none (.rangeF g ps as bd) st) Q:=by
  refine zqu hg ?_
  have:=h _ rfl
  rw[List.append_assoc]
  exact this
def IterG {α:Type}(C:Cfg)(n m:Nat)(gf:Nat)(first captured:List AV)(arg:α→AV)(L:List α)(S:List Nat)(Y:List AB→Prop)(pre:List AB→List Nat→Prop):Prop:=
  ∀ (H:List AB) (l:Nat) (T:List Nat) (J:List α→List Nat→List AB→Prop) (E:List α→List AB→Prop) (M:List α→Nat→Prop),pre H T→(∀ j∈T,j<H.length)→l∈T→J [] [] H→(∀ d W G,J d W G→Y G)→(∀ j,¬ M [] j)→Yields (Ev.call C n) l H.length T arg L S Y J E M →
    ∃ H' tc,Ev.call C m (.fn (.func gf) first captured) [.yield l] H=some (.ret (.tup []),H',tc)∧(∀ j∈tc,j∈S++T)∧Kp tc H H'∧((∃ W,(∀ j∈W,H.length≤j)∧J L W H'∧∀ j,j<H.length→M L j→j∈tc)∨∃ d,d <+: L∧E d H'∧∀ j,j<H.length→M d j→j∈tc)
theorem lft_eq {H hp:List AB}{tc:List Nat}{H':List AB}{v:AV}(h:Lft H hp tc H')(k:Kp tc H hp)(n:refs v≠[]∨tc≠[]→H'.length=hp.length∧∀ j,H.length≤j→H'[j]?=hp[j]?)(hn:refs v≠[]∨tc≠[]):H'=hp:=by
  obtain ⟨_,n2⟩:=n hn
  refine List.ext_getElem? fun j=>?_
  by_cases hj:j<H.length
  · exact h.same k j hj
  · exact n2 j (by omega)
theorem zfb {α:Type}{C:Cfg}{k n gf:Nat}{fn:AFunc}{first captured:List AV}{arg:α→AV}{L:List α}{S:List Nat}{Y:List AB→Prop}{pre:List AB→List Nat→Prop}(hc:C.calm=true)(hx:C.ext gf=none)(hxh:C.exth gf=none)(hf:C.fns gf=some fn)(hw:C.whole gf=true)(hlen:first.length+1+captured.length≤fn.ntmps)
    (h : ∀ (H : List AB) (l : Nat) (T : List Nat) (J : List α → List Nat → List AB → Prop) (E : List α → List AB → Prop) (M : List α → Nat → Prop), pre H T → (∀ j ∈ T, j < H.length) → l ∈ T → J [] [] H → (∀ d W G, J d W G → Y G) → (∀ j, ¬ M [] j) → Yields (Ev.call C k) l H.length T arg L S Y J E M →
      Does (ev C (Ev.call C n) H.length none fn.body { tm:=tmA fn.ntmps (zipI 0 (first++[.yield l]++captured) []),df:=[],hp:=H,tc:=[] })
        (Ends C H.length fn.res fun v hp tc=>v=.tup []∧(∀ j∈tc,j∈S++T)∧Kp tc H hp∧((∃ W,(∀ j∈W,H.length≤j)∧J L W hp∧(L=[]∨l∈tc)∧∀ j,j<H.length→M L j→j∈tc)∨∃ d,d <+: L∧E d hp∧l∈tc∧∀ j,j<H.length→M d j→j∈tc))):IterG C k (n+1) gf first captured arg L S Y pre:=by
  intro H l T J E M h1 h2 h3 h4 h5 h7 h6
  obtain ⟨v,hp,tc,H',c1,⟨rfl,c2,c3,c4⟩,c5,c6,c7⟩:=zbw hc hx hxh hf hw (by simp;omega) (h H l T J E M h1 h2 h3 h4 h5 h7 h6)
  refine ⟨H',tc,c1,c2,c5.same c3 |> fun hs=>⟨c5.len,fun b hb ht=>(hs b hb).trans (c3.get b hb ht)⟩,?_⟩
  rcases c4 with ⟨W,w1,w2,w3,w4⟩|⟨d,d1,d2,d3,d4⟩
  · rcases w3 with w3|w3
    · by_cases ht:tc=[]
      · rw[c7 rfl ht];subst w3;exact .inl ⟨[],by simp,h4,fun j _ hj=>absurd hj (h7 j)⟩
      · rw[lft_eq c5 c3 c6 (.inr ht)];exact .inl ⟨W,w1,w2,w4⟩
    · rw[lft_eq c5 c3 c6 (.inr (by intro h;rw[h] at w3;cases w3))];exact .inl ⟨W,w1,w2,w4⟩
  · rw[lft_eq c5 c3 c6 (.inr (by intro h;rw[h] at d3;cases d3))];exact .inr ⟨d,d1,d2,d4⟩
def RoundTo {α:Type}(l:Nat)(rz:ALoop)(T S W:List Nat)(Y:List AB→Prop)(G:List AB)(J:List Nat→List AB→Prop)(E:AExit→List AB→Prop)(_a:Option α)(M M':Nat→Prop)(e:AExit)(st:St):Prop:=
  (∀ v,e≠.panic v)∧st.hp[l]?=some (.loop rz)∧G.length≤st.hp.length∧(∀ j∈st.tc,j=l∨j∈T∨j∈S∨j∈W)∧Kp st.tc G st.hp∧Y st.hp∧(e=.normal→∃ W',(∀ j∈W',j∈W∨G.length≤j)∧J W' st.hp)∧(e≠.normal→E e st.hp)∧∀ j,j<l+1→M' j→M j∨j∈st.tc
theorem zqv {α:Type}{C:Cfg}(hC:C.calm=true){n m gf:Nat}{first captured:List AV}{arg:α→AV}{L:List α}{S:List Nat}{Y:List AB→Prop}{pre:List AB→List Nat→Prop}(hI:IterG C (n+1) m gf first captured arg L S Y pre)
    {pin:Nat} {st:St} {g:Opnd} {ps:List Nat} {as bd:AC} {Q:AExit→St→Prop} (hg:val C st.tm g=.fn (.func gf) first captured) (hps:ps.length=1) (T:List Nat) (hT:∀ j∈T,j<st.hp.length) (hS:∀ j∈S,j<st.hp.length)
    (J:List α→List Nat→List AB→Prop) (E:AExit→List α→List AB→Prop) (M:List α→Nat→Prop) (hM:∀ j,¬ M [] j)
    (hpre:∀ r:ALoop,pre (st.hp++[.dfr,.loop r]) ((st.hp.length+1)::(T++S)))
    (hYs:∀ G G',Y G→(∀ j,j<st.hp.length+2→j≠st.hp.length+1→G'[j]?=G[j]?)→Y G')
    (hJ0:∀ r:ALoop,J [] [] (st.hp++[.dfr,.loop r])) (hY0:∀ r:ALoop,Y (st.hp++[.dfr,.loop r]))
    (hJs:∀ d W G G',J d W G→(∀ j∈W,st.hp.length+2≤j)→(∀ j,j<G.length→j<st.hp.length+2∨j∈W→j∉S→j≠st.hp.length+1→G'[j]?=G[j]?)→J d W G')
    (hEs:∀ e d G G',E e d G→(∀ j,j<st.hp.length+2→j≠st.hp.length+1→G'[j]?=G[j]?)→E e d G')
    (hround : ∀ d s W G rz, d ++ [s] <+: L → J d W G → Y G → st.hp.length + 2 ≤ G.length → (∀ j ∈ W, st.hp.length + 2 ≤ j) →
      Does (ev C (Ev.call C n) G.length (some (st.hp.length+1)) as { tm:=setParams st.tm ps [arg s],df:=[],hp:=G,tc:=[] }) fun e st1=>e=.normal∧st1.hp[st.hp.length+1]?=G[st.hp.length+1]? ∧
        Does (ev C (Ev.call C n) G.length (some (st.hp.length+1)) bd { st1 with hp:=st1.hp.set (st.hp.length+1) (.loop rz),tc:=(st.hp.length+1)::st1.tc }) (RoundTo (st.hp.length+1) rz T S W Y G (J (d++[s])) (fun e=>E e (d++[s])) (some s) (M d) (M (d++[s]))))
    (hQ:∀ H' tc W,(∀ j∈tc,j<st.hp.length→j∈S++T)→Kp tc st.hp H'→Y H'→H'[st.hp.length]?=some .dfr→st.hp.length+2≤H'.length→(∀ j∈W,st.hp.length+2≤j)→J L W H'→(∀ j,j<st.hp.length→M L j→j∈tc)→Q .normal { st with df:=.mark st.hp.length::st.df,hp:=H',tc:=tc.filter (·<pin)++st.tc })
    (hE:∀ e d H' tc,e≠.normal→(∀ j∈tc,j<st.hp.length→j∈S++T)→Kp tc st.hp H'→Y H'→H'[st.hp.length]?=some .dfr→st.hp.length+2≤H'.length→d <+: L→E e d H'→(∀ j,j<st.hp.length→M d j→j∈tc)→Q e { st with df:=.mark st.hp.length::st.df,hp:=H',tc:=tc.filter (·<pin)++st.tc }):
    Does (ev C (Ev.call C m) pin none (.rangeF g ps as bd) st) Q:=by
  refine zld hg fun r hr=>?_
  have ra:=congrArg ALoop.assign hr
  have rb:=congrArg ALoop.body hr
  have rt:=congrArg ALoop.tm hr
  have rp:=congrArg ALoop.params hr
  have rs:=congrArg ALoop.st hr
  have rq:=congrArg ALoop.pend hr
  clear hr
  simp only at ra rb rt rp rs rq
  have hlen0:(st.hp++[.dfr,.loop r]:List AB).length=st.hp.length+2:=by simp
  have hstep:Yields (Ev.call C (n+1)) (st.hp.length+1) (st.hp++[.dfr,.loop r]:List AB).length ((st.hp.length+1)::(T++S)) arg L S Y
      (fun d W G=>J d W G∧Y G∧G[st.hp.length+1]?=some (.loop r)∧G[st.hp.length]?=some .dfr∧∀ j∈W,st.hp.length+2≤j)
      (fun d G=>∃ e,e≠.normal∧E e d G∧G[st.hp.length+1]?=some (.loop { r with st:=.done,pend:=some e })∧G[st.hp.length]?=some .dfr∧Y G) M:=by
    rw[hlen0]
    refine ⟨fun d W G G' ⟨h1,h2,h3,h4,h5⟩ k hy=>⟨hJs d W G G' h1 h5 fun j hj hw hs _=>k j hj hw hs,hy,(k _ (get_lt h3) (.inl (by omega)) fun h=>by have:=hS _ h;omega).trans h3,(k _ (get_lt h4) (.inl (by omega)) fun h=>by have:=hS _ h;omega).trans h4,h5⟩,fun d G G' ⟨e,g0,g1,g2,g3,g4⟩ k=>⟨e,g0,hEs _ _ _ _ g1 fun j hj _=>k j hj,(k _ (by omega)).trans g2,(k _ (by omega)).trans g3,hYs _ _ g4 fun j hj _=>k j hj⟩,?_⟩
    rintro d s W G hpr ⟨h1,h2,h3,h4,h5⟩
    have hGl:=get_lt h3
    obtain ⟨b,e,hp,tc,H',c1,c2,⟨c3,c4,c5,c6,c7,c8,c10⟩,c9⟩:=zoo (C:=C) (n:=n) (l:=st.hp.length+1) (args:=[arg s]) (H:=G) (r:=r)
      (Q := fun e hp tc => (∀ v, e ≠ .panic v) ∧ (∀ j ∈ tc, j = st.hp.length + 1 ∨ j ∈ T ∨ j ∈ S ∨ j ∈ W) ∧ Kp tc G hp ∧ Y hp ∧ (e = .normal → ∃ W', (∀ j ∈ W', j ∈ W ∨ G.length ≤ j) ∧ J (d ++ [s]) W' hp) ∧ (e ≠ .normal → E e (d ++ [s]) hp) ∧ ∀ j, j < st.hp.length + 2 → M (d ++ [s]) j → M d j ∨ j ∈ tc) hC h3 rs rq (by rw [rp]; simp [hps]) (by
        have:=hround d s W G { r with st:=.busy } hpr h1 h2 (by omega) h5
        rw[← ra,← rb,← rt,← rp] at this
        refine this.mono fun e st1 ⟨g1,g2,g3⟩=>⟨g1,g2.trans h3,g3.mono fun e st2 ⟨k1,k2,k3,k4,k5,k6,k7,k8,k9⟩=>⟨k1,k2,k3,k1,k4,k5,k6,k7,k8,k9⟩⟩)
    have hsm:=c9.same c5
    have hd:H'[st.hp.length]?=some .dfr:=by
      rw[hsm _ (by omega),c5.get _ (by omega) (fun h=>?_),h4]
      rcases c4 _ h with h|h|h|h
      · omega
      · have:=hT _ h;omega
      · have:=hS _ h;omega
      · have:=h5 _ h;omega
    have hl9:st.hp.length+1∈(st.hp.length+1)::tc:=by simp
    have hall:∀ j∈(st.hp.length+1)::tc,j∈(st.hp.length+1)::(T++S)++W:=by
      intro j hj
      simp only[List.cons_append,List.append_assoc,List.mem_cons,List.mem_append]
      rcases List.mem_cons.1 hj with h|h
      · exact .inl h
      · rcases c4 j h with h|h|h|h
        · exact .inl h
        · exact .inr (.inl h)
        · exact .inr (.inr (.inl h))
        · exact .inr (.inr (.inr h))
    have c11:∀ j,j<st.hp.length+2→M (d++[s]) j→M d j∨j∈(st.hp.length+1)::tc:=fun j hl hj=>(c10 j hl hj).imp id (List.mem_cons_of_mem _)
    by_cases he:e=.normal
    · have hb:=c2.2 he
      obtain ⟨W',w1,w2⟩:=c7 he
      subst hb
      rw[if_pos rfl] at c9
      refine ⟨true,H',_,W',c1,hl9,hall,c9.kp,w1,fun _=>⟨hJs _ _ _ _ w2 (fun j hj=>(w1 j hj).elim (h5 j) fun h=>by omega) fun j _ _ _ hj=>hsm j hj,hYs _ _ c6 fun j _ hj=>hsm j hj,c9.here,hd,fun j hj=>?_⟩,(fun h=>by cases h),c11⟩
      rcases w1 j hj with h|h
      · exact h5 j h
      · omega
    · have hb:b=false:=by
        cases b with
        |false=>rfl
        |true=>exact absurd (c2.1 rfl) he
      subst hb
      rw[if_neg (by decide)] at c9
      exact ⟨false,H',_,[],c1,hl9,hall,c9.kp,by simp,(fun h=>by cases h),fun _=>⟨⟨e,he,hEs _ _ _ _ (c8 he) (fun j _ hj=>hsm j hj),c9.here,hd,hYs _ _ c6 fun j _ hj=>hsm j hj⟩,hYs _ _ c6 fun j _ hj=>hsm j hj⟩,c11⟩
  obtain ⟨H2, tc, c1, c2, c3, c4⟩ := hI (st.hp ++ [.dfr, .loop r]) (st.hp.length + 1) ((st.hp.length + 1) :: (T ++ S)) _ _ M (hpre r) (by
    intro j hj
    rw[hlen0]
    rcases List.mem_cons.1 hj with h|h
    · omega
    · rcases List.mem_append.1 h with h|h
      · have:=hT j h;omega
      · have:=hS j h;omega) (by simp) ⟨hJ0 r,hY0 r,by simp,by simp,by simp⟩ (fun d W G h=>h.2.1) hM hstep
  refine ⟨_,H2,tc,c1,?_⟩
  have hlen2:st.hp.length+2≤H2.length:=by have:=c3.len;rw[hlen0] at this;exact this
  have hk : Kp tc st.hp (H2.set (st.hp.length + 1) .dead) := ⟨by simp; omega, fun b hb ht => by
    rw[List.getElem?_set_ne (by omega)];exact c3.pre.get b hb ht⟩
  have htc:∀ j∈tc,j<st.hp.length→j∈S++T:=by
    intro j hj hl
    rcases List.mem_append.1 (c2 j hj) with h|h
    · exact List.mem_append_left _ h
    · rcases List.mem_cons.1 h with h|h
      · omega
      · exact List.mem_append.2 (List.mem_append.1 h).symm
  have hset:∀ j,j≠st.hp.length+1→(H2.set (st.hp.length+1) .dead)[j]?=H2[j]?:=fun j hj=>by rw[List.getElem?_set_ne (by omega)]
  rw[hlen0] at c4
  rcases c4 with ⟨W,w1,⟨h1,h2,h3,h4,h5⟩,h6⟩|⟨d,d1,⟨e,h0,h1,h2,h3,h4⟩,h6⟩
  · refine ⟨r,h3,by rw[rs];simp,?_⟩
    rw[rq]
    exact hQ _ tc W htc hk (hYs _ _ h2 fun j _ hj=>hset j hj) ((hset _ (by omega)).trans h4) (by simp;omega) h5 (hJs _ _ _ _ h1 h5 fun j _ _ _ hj=>hset j hj) fun j hj hm=>h6 j (by omega) hm
  · refine ⟨_,h2,by simp,?_⟩
    exact hE e d _ tc h0 htc hk (hYs _ _ h4 fun j _ hj=>hset j hj) ((hset _ (by omega)).trans h3) (by simp;omega) d1 (hEs _ _ _ _ h1 fun j _ hj=>hset j hj) fun j hj hm=>h6 j (by omega) hm
end Ev
end Go.Proofs.Ytlcjlcllbgjplaa

/- Clamps, plainly: what package clamp computes. No program in sight. -/
namespace Go.Proofs.Ytlcjlcllbgjplaa
open Go
namespace Clm
structure Sp where
  lo:Int
  hi:Int
  deriving DecidableEq,Inhabited
structure Pl where
  long:Sp
  wide:Sp
  high:Sp
  deriving DecidableEq,Inhabited
structure Evt where
  kind:Int
  clamp:Int
  sods:Sp
  deriving DecidableEq,Inhabited
structure Cl where
  piles:List Pl
  pack:Sp
  events:List Evt
def Sp.no:Sp:=⟨1,0⟩
def Sp.some (k:Sp):Bool:=decide (k.lo≤k.hi)
def Sp.both (k o:Sp):Sp:=if max k.lo o.lo > min k.hi o.hi then Sp.no else ⟨max k.lo o.lo,min k.hi o.hi⟩
def Sp.either (k o:Sp):Sp:=⟨min k.lo o.lo,max k.hi o.hi⟩
inductive Bf where
  |nil
  |sale (s:Sp)
  |count (s:Sp)
def Bf.after:Bf→Sp→Sp
  |.nil,k=>k
  |.sale s,k=>if k.some=false∨k.hi<s.lo then Sp.no else ⟨max 0 (k.lo - s.hi),k.hi - s.lo⟩
  |.count s,k=>k.both s
def Bf.before:Bf→Sp→Sp
  |.nil,k=>k
  |.sale s,k=>if k.some=false then Sp.no else ⟨k.lo+s.lo,k.hi+s.hi⟩
  |.count s,k=>k.both s
def logs:List Bf→Sp→List Sp
  |[],k=>[k]
  |e::l,k=>k.both (e.before ((logs l (e.after k)).headD Sp.no))::logs l (e.after k)
def Goes:List Bf→Int→Int→Prop
  |[],x,y=>y=x
  |.nil::l,x,y=>Goes l x y
  |.sale s::l,x,y=>∃ k,s.lo≤k∧k≤s.hi∧k≤x∧Goes l (x - k) y
  |.count s::l,x,y=>s.lo≤x∧x≤s.hi∧Goes l x y
def Sp.has (k:Sp)(x:Int):Prop:=k.lo≤x∧x≤k.hi
def Bf.fine:Bf→Prop
  |.sale s=>0≤s.lo∧s.lo≤s.hi
  |_=>True
theorem has_no (x:Int):¬ Sp.no.has x:=by simp only[Sp.has,Sp.no];omega
theorem some_iff (k:Sp):k.some=true↔k.lo≤k.hi:=by simp[Sp.some]
theorem zwx (k:Sp):k.some=true↔∃ x,k.has x:=by
  rw[some_iff];exact ⟨fun h=>⟨k.lo,by simp[Sp.has];omega⟩,fun ⟨x,h⟩=>by simp only[Sp.has] at h;omega⟩
theorem zgf (k o:Sp)(x:Int):(k.both o).has x↔k.has x∧o.has x:=by
  unfold Sp.both
  split
  · simp only[Sp.has,Sp.no];omega
  · simp only[Sp.has];omega
theorem zuv (e:Bf)(h:e.fine)(k:Sp)(_hk:0≤k.lo)(y:Int):(e.after k).has y↔∃ x,k.has x∧Goes [e] x y:=by
  cases e with
  |nil=>simp[Bf.after,Goes]
  |count s=>
    simp only[Bf.after,zgf,Goes]
    simp only[Sp.has]
    exact ⟨fun h=>⟨y,h.1,h.2.1,h.2.2,rfl⟩,fun ⟨x,h1,h2,h3,h4⟩=>by subst h4;exact ⟨h1,h2,h3⟩⟩
  |sale s=>
    simp only[Bf.fine] at h
    simp only[Bf.after,Goes]
    by_cases hn:k.some=false∨k.hi<s.lo
    · rw[if_pos hn]
      simp only[Sp.some,decide_eq_false_iff_not] at hn
      simp only[Sp.has,Sp.no]
      constructor
      · omega
      · rintro ⟨x,h1,k',h2,h3,h4,rfl⟩;omega
    · rw[if_neg hn]
      simp only[Sp.some,decide_eq_false_iff_not] at hn
      simp only[Sp.has]
      constructor
      · intro hy
        by_cases hc:y+s.lo<k.lo
        · exact ⟨k.lo,by omega,k.lo - y,by omega,by omega,by omega,by omega⟩
        · exact ⟨y+s.lo,by omega,s.lo,by omega,by omega,by omega,by omega⟩
      · rintro ⟨x,h1,k',h2,h3,h4,rfl⟩;omega
theorem zyp (e:Bf)(k:Sp)(hk:0≤k.lo):0≤(e.after k).lo:=by
  cases e with
  |nil=>exact hk
  |count s=>unfold Bf.after Sp.both;simp only;split<;>simp only[Sp.no]<;>omega
  |sale s=>unfold Bf.after;simp only;split<;>simp only[Sp.no]<;>omega
theorem zqn (e:Bf)(h:e.fine)(o:Sp)(x:Int)(_ho:0≤o.lo):(e.before o).has x↔(match e with|.sale s=>o.some=true∧o.lo+s.lo≤x∧x≤o.hi+s.hi|.count s=>o.has x∧s.has x|.nil=>o.has x):=by
  cases e with
  |nil=>rfl
  |count s=>exact zgf ..
  |sale s=>
    simp only[Bf.before]
    split
    · rename_i hn;simp only[hn,Bool.false_eq_true,false_and,iff_false];exact has_no x
    · rename_i hn;rw[Bool.not_eq_false] at hn;simp only[hn,true_and,Sp.has]
theorem zko:∀ (l:List Bf) (k:Sp),(∀ e∈l,e.fine)→0≤k.lo →
    0≤((logs l k).headD Sp.no).lo∧(∀ x,((logs l k).headD Sp.no).has x↔k.has x∧∃ y,Goes l x y)
  |[],k,_,hk=>by
    simp only[logs,List.headD_cons,Goes]
    exact ⟨hk,fun x=>⟨fun h=>⟨h,x,rfl⟩,fun h=>h.1⟩⟩
  |e::l,k,hf,hk=>by
    have he:=hf e (by simp)
    obtain ⟨ih0,ih⟩:=zko l (e.after k) (fun e h=>hf e (by simp[h])) (zyp e k hk)
    simp only[logs,List.headD_cons]
    generalize (logs l (e.after k)).headD Sp.no=o at ih0 ih ⊢
    refine ⟨?_,fun x=>?_⟩
    · unfold Sp.both;split<;>simp only[Sp.no]<;>omega
    · rw[zgf,zqn e he o x ih0]
      refine and_congr_right fun hx=>?_
      cases e with
      |nil=>simp only[ih,Bf.after,Goes];exact ⟨fun h=>h.2,fun h=>⟨hx,h⟩⟩
      |count s=>
        simp only[ih,Bf.after,zgf,Goes]
        exact ⟨fun ⟨⟨_,y,h⟩,h2⟩=>⟨y,h2.1,h2.2,h⟩,fun ⟨y,h1,h2,h3⟩=>⟨⟨⟨hx,h1,h2⟩,y,h3⟩,h1,h2⟩⟩
      |sale s=>
        simp only
        constructor
        · rintro ⟨h1,h2,h3⟩
          rw[some_iff] at h1
          simp only[Bf.fine] at he
          have hz:∃ z,o.has z∧s.lo≤x - z∧x - z≤s.hi:=by
            by_cases hc:x - s.lo≤o.hi
            · exact ⟨x - s.lo,⟨by omega,by omega⟩,by omega,by omega⟩
            · exact ⟨o.hi,⟨by omega,by omega⟩,by omega,by omega⟩
          obtain ⟨z,hz,h4,h5⟩:=hz
          obtain ⟨hz1,y,hy⟩:=(ih z).1 hz
          have hz0:0≤z:=by simp only[Sp.has] at hz;omega
          refine ⟨y,x - z,h4,h5,by omega,?_⟩
          rw[show x - (x - z)=z by omega];exact hy
        · rintro ⟨y,k',h1,h2,h3,h4⟩
          have:=(ih (x - k')).2 ⟨(zuv _ he k hk _).2 ⟨x,hx,k',h1,h2,h3,rfl⟩,y,h4⟩
          simp only[Sp.has] at this
          exact ⟨(some_iff _).2 (by omega),by omega,by omega⟩
def ends (l:List Bf)(k:Sp):Sp:=l.foldl (fun k e=>e.after k) k
theorem zkp (l:List Bf)(n:Int)(hf:∀ e∈l,e.fine)(hn:0≤n):((logs l ⟨n,n⟩).headD Sp.no).some=true↔∃ y,Goes l n y:=by
  obtain ⟨_,h⟩:=zko l ⟨n,n⟩ hf hn
  rw[zwx]
  constructor
  · rintro ⟨x,hx⟩
    obtain ⟨h1,y,h2⟩:=(h x).1 hx
    simp only[Sp.has] at h1
    have e:x=n:=by omega
    subst e;exact ⟨y,h2⟩
  · rintro ⟨y,hy⟩
    exact ⟨n,(h n).2 ⟨⟨Int.le_refl _,Int.le_refl _⟩,y,hy⟩⟩
def bit (s:Nat)(i:Nat):Bool:=s.testBit i
def befell (c:Cl)(number:Int)(counts:Nat):List Bf:=
  c.events.zipIdx.map fun p=>if p.1.clamp≠number then .nil else if p.1.kind=0 then .sale p.1.sods else if bit counts p.2 then .count p.1.sods else .nil
def spanL (s:Sp):List Int:=(List.range (s.hi+1 - s.lo).toNat).map fun (i:Nat)=>s.lo+(i:Int)
structure Size where
  l:Int
  w:Int
  h:Int
  deriving DecidableEq,Inhabited
def sizes (p:Pl):List Size:=(spanL p.long).flatMap fun l=>(spanL p.wide).flatMap fun w=>(spanL p.high).map fun h=>⟨l,w,h⟩
def Size.sods (s:Size)(pack:Int):Int:=s.l * s.w * s.h * pack
def logOf (c:Cl)(number:Nat)(pack:Int)(counts:Nat)(s:Size):List Sp:=logs (befell c number counts) ⟨s.sods pack,s.sods pack⟩
structure Way where
  size:Size
  log:List Sp
def ways (c:Cl)(number:Nat)(pack:Int)(counts:Nat):List Way:=
  (sizes (c.piles.getD number default)).filterMap fun s=>if ((logOf c number pack counts s).headD Sp.no).some then some ⟨s,logOf c number pack counts s⟩ else none
def packs (c:Cl)(counts:Nat):List Int:=(spanL c.pack).filter fun k=>(List.range c.piles.length).all fun i=>!(ways c i k counts).isEmpty
def can (c:Cl)(counts:Nat):Bool:=!(packs c counts).isEmpty
def hull:List Sp→Sp
  |[]=>⟨0,0⟩
  |k::l=>l.foldl (fun k x=>k.either x) k
def every (c:Cl):Nat:=2 ^ c.events.length - 1
def isSpan (s:Sp)(low high wide:Int):Bool:=decide (low≤s.lo∧s.lo≤s.hi∧s.hi≤high∧s.hi - s.lo≤wide)
def valid (c:Cl):Bool:=decide (1≤c.piles.length∧c.piles.length≤4)&&isSpan c.pack 1 5 2&&decide (c.events.length≤6) &&
  c.piles.all (fun p=>isSpan p.long 1 10 1&&isSpan p.wide 1 10 1&&isSpan p.high 1 10 1) &&
  c.events.all (fun v=>decide (0≤v.clamp∧v.clamp<c.piles.length)&&decide (v.kind=0∨v.kind=1)&&isSpan v.sods 0 5000 (if v.kind=0 then 3 else 5000))
end Clm
end Go.Proofs.Ytlcjlcllbgjplaa

/- Spans as hulls of numbers that are possible. -/
namespace Go.Proofs.Ytlcjlcllbgjplaa
open Go
namespace Clm
structure Hull (s:Sp) (P:Int→Prop):Prop where
  lo:P s.lo
  hi:P s.hi
  all:∀ x,P x→s.has x
theorem Hull.congr {s:Sp}{P Q:Int→Prop}(h:Hull s P)(e:∀ x,P x↔Q x):Hull s Q:=⟨(e _).1 h.lo,(e _).1 h.hi,fun x hx=>h.all x ((e x).2 hx)⟩
theorem Hull.le {s:Sp}{P:Int→Prop}(h:Hull s P):s.lo≤s.hi:=(h.all _ h.hi).1
theorem Hull.either {s t:Sp}{P Q:Int→Prop}(h:Hull s P)(g:Hull t Q):Hull (s.either t) fun x=>P x∨Q x:=by
  refine ⟨?_,?_,?_⟩
  · simp only[Sp.either]
    by_cases hc:s.lo≤t.lo
    · rw[show min s.lo t.lo=s.lo by omega];exact .inl h.lo
    · rw[show min s.lo t.lo=t.lo by omega];exact .inr g.lo
  · simp only[Sp.either]
    by_cases hc:t.hi≤s.hi
    · rw[show max s.hi t.hi=s.hi by omega];exact .inl h.hi
    · rw[show max s.hi t.hi=t.hi by omega];exact .inr g.hi
  · rintro x (hx|hx)
    · have:=h.all x hx;simp only[Sp.has,Sp.either] at this ⊢;omega
    · have:=g.all x hx;simp only[Sp.has,Sp.either] at this ⊢;omega
theorem zkv {α:Type}(f:α→Sp)(P:α→Int→Prop):∀ (l:List α) (s:Sp) (Q:Int→Prop),Hull s Q→(∀ a∈l,Hull (f a) (P a))→Hull ((l.map f).foldl (fun k x=>k.either x) s) fun x=>Q x∨∃ a∈l,P a x
  |[],s,Q,h,_=>by simpa using h
  |a::l,s,Q,h,hl=>by
    simp only[List.map_cons,List.foldl_cons]
    refine (zkv f P l _ _ (h.either (hl a (by simp))) fun b hb=>hl b (by simp[hb])).congr fun x=>?_
    simp[or_assoc]
theorem hull_hull {α:Type}(f:α→Sp)(P:α→Int→Prop)(l:List α)(hne:l≠[])(h:∀ a∈l,Hull (f a) (P a)):Hull (hull (l.map f)) fun x=>∃ a∈l,P a x:=by
  cases l with
  |nil=>exact absurd rfl hne
  |cons a l=>
    simp only[List.map_cons,hull]
    refine (zkv f P l _ _ (h a (by simp)) fun b hb=>h b (by simp[hb])).congr fun x=>?_
    simp
theorem Hull.add {s t:Sp}{P Q:Int→Prop}(h:Hull s P)(g:Hull t Q):Hull ⟨s.lo+t.lo,s.hi+t.hi⟩ fun x=>∃ y z,P y∧Q z∧x=y+z:=
  ⟨⟨_, _, h.lo, g.lo, rfl⟩, ⟨_, _, h.hi, g.hi, rfl⟩, fun x ⟨y, z, hy, hz, e⟩ => by
    have:=h.all y hy;have:=g.all z hz;simp only[Sp.has] at *;omega⟩
end Clm
end Go.Proofs.Ytlcjlcllbgjplaa

/- What walks of packages share: rules, and facts of numbers and blocks. -/
namespace Go.Proofs.Ytlcjlcllbgjplaa
open Go
namespace Clm
theorem span_len (s:Sp):(spanL s).length=(s.hi+1 - s.lo).toNat:=by simp[spanL]
theorem span_get (s:Sp){i:Nat}(h:i<(spanL s).length):(spanL s)[i]=s.lo+i:=by simp[spanL]
theorem pre_flat {α β:Type}(f:α→List β){xs:List α}{i:Nat}{x:α}(h:xs[i]?=some x){q:List β}(hq:q <+: f x):(xs.take i).flatMap f++q <+: xs.flatMap f:=by
  obtain ⟨t,ht⟩:=hq
  have hi:=(List.getElem?_eq_some_iff.1 h).1
  have hx:=(List.getElem?_eq_some_iff.1 h).2
  refine ⟨t++(xs.drop (i+1)).flatMap f,?_⟩
  conv=>rhs;rw[← List.take_append_drop i xs,List.drop_eq_getElem_cons hi,hx]
  simp[← ht]
theorem pre_map {α β:Type}(f:α→β){xs:List α}{i:Nat}{x:α}(h:xs[i]?=some x):(xs.take i).map f++[f x] <+: xs.map f:=by
  have hi:=(List.getElem?_eq_some_iff.1 h).1
  have hx:=(List.getElem?_eq_some_iff.1 h).2
  refine ⟨(xs.drop (i+1)).map f,?_⟩
  conv=>rhs;rw[← List.take_append_drop i xs,List.drop_eq_getElem_cons hi,hx]
  simp
theorem flat_succ {α β:Type}(f:α→List β){xs:List α}{i:Nat}{x:α}(h:xs[i]?=some x):(xs.take (i+1)).flatMap f=(xs.take i).flatMap f++f x:=by
  rw[List.take_add_one,h];simp
theorem map_succ {α β:Type}(f:α→β){xs:List α}{i:Nat}{x:α}(h:xs[i]?=some x):(xs.take (i+1)).map f=(xs.take i).map f++[f x]:=by
  rw[List.take_add_one,h];simp
end Clm
namespace Ev
namespace K
set_option maxRecDepth 100000
set_option maxHeartbeats 4000000
structure Hidden (p:Prop):Prop where
  out:p
theorem hideP {p:Prop}(h:p):Hidden p:=⟨h⟩
theorem zau {n:Int}(h1:-9223372036854775808≤n)(h2:n≤9223372036854775807):IntKind.i64.wrap n=n:=by
  simp[IntKind.wrap,IntKind.bits,IntKind.signed]
  split<;>omega
theorem st_eq {st:St}{tm:List AV}{df:List ADef}{hp:List AB}{tc:List Nat}(h1:st.tm=tm)(h2:st.df=df)(h3:st.hp=hp)(h4:st.tc=tc):st=⟨tm,df,hp,tc⟩:=by
  cases st;cases h1;cases h2;cases h3;cases h4;rfl
theorem zat (k:Nat)(H:List AB)(b off n k':Nat):slCells k H (.sl b off n k')=if k=k' then (match H[b]? with|some (.cells cs)=>if off+n * k≤cs.length then some ((cs.drop off).take (n * k)) else none|_=>none) else none:=rfl
structure Has (C:Cfg) (f:Nat) (fn:AFunc):Prop where
  ext:C.ext f=none
  exth:C.exth f=none
  fns:C.fns f=some fn
  whole:C.whole f=true
def spA (s:Clm.Sp):AV:=.agg [.int .i64 s.lo,.int .i64 s.hi]
theorem zdf {G:List AB}{l:Nat}(x:AB)(hl:l<G.length):∃ G2,G2=G.set l x∧G2.length=G.length∧G2[l]?=some x∧(∀ j,j≠l→G2[j]?=G[j]?)∧Kp [l] G G2:=
  ⟨_,rfl,by simp,List.getElem?_set_self hl,fun j hj=>List.getElem?_set_ne (by omega),(Kp.refl [l] G).set _ _ (by simp)⟩
theorem zed {C:Cfg}{n f:Nat}{fn:AFunc}{first captured args:List AV}{H K:List AB}{v:AV}(hc:C.calm=true)(h0:Has C f fn)(hlen:(first++args++captured).length≤fn.ntmps)(hv:refs v≠[])
    (h:Does (ev C (Ev.call C n) H.length none fn.body { tm:=tmA fn.ntmps (zipI 0 (first++args++captured) []),df:=[],hp:=H,tc:=[] }) (Ends C H.length fn.res fun w hp tc=>w=v∧hp=H++K∧tc=[])):
    Ev.call C (n+1) (.fn (.func f) first captured) args H=some (.ret v,H++K,[]):=by
  obtain ⟨w,hp,tc,H',c1,⟨rfl,rfl,rfl⟩,c5,c6,_⟩:=zbw hc h0.ext h0.exth h0.fns h0.whole hlen h
  rw[c1,lft_eq c5 (Kp.app _ _) c6 (.inl hv)]
theorem zax {C:Cfg}{n f:Nat}{fn:AFunc}{first captured args:List AV}{H:List AB}{v:AV}(hc:C.calm=true)(h0:Has C f fn)(hlen:(first++args++captured).length≤fn.ntmps)(hv:refs v=[])
    (h:Does (ev C (Ev.call C n) H.length none fn.body { tm:=tmA fn.ntmps (zipI 0 (first++args++captured) []),df:=[],hp:=H,tc:=[] }) (Ends C H.length fn.res fun w _hp tc=>w=v∧tc=[])):
    Ev.call C (n+1) (.fn (.func f) first captured) args H=some (.ret v,H,[]):=by
  obtain ⟨w,hp,tc,H',c1,⟨rfl,rfl⟩,_,_,c7⟩:=zbw hc h0.ext h0.exth h0.fns h0.whole hlen h
  rw[c1,c7 hv rfl]
theorem zyw {d:Nat}(h:d≤40):IntKind.u64.wrap (1 * 2 ^ (min ((d:Int).toNat) IntKind.u64.bits))=((2 ^ d:Nat):Int)∧IntKind.u64.wrap (2 ^ (min ((d:Int).toNat) IntKind.u64.bits))=((2 ^ d:Nat):Int)∧IntKind.u64.wrap (2 ^ (min d IntKind.u64.bits))=((2 ^ d:Nat):Int):=by
  have hb:IntKind.u64.bits=64:=rfl
  have h1:min ((d:Int).toNat) IntKind.u64.bits=d:=by rw[hb];omega
  have h1':min d IntKind.u64.bits=d:=by rw[hb];omega
  have h2:(2:Int) ^ d=((2 ^ d:Nat):Int):=by simp
  have h3:2 ^ d≤2 ^ 40:=Nat.pow_le_pow_right (by decide) h
  have h4:∀ q:Nat,q≤2 ^ 40→IntKind.u64.wrap (q:Int)=q:=by
    intro q hq
    simp[IntKind.wrap,IntKind.bits,IntKind.signed]
    omega
  rw[h1,h1',Int.one_mul,h2]
  exact ⟨h4 _ h3,h4 _ h3,h4 _ h3⟩
theorem zir {n:Int}(h1:0≤n)(h2:n<18446744073709551616):IntKind.u64.wrap n=n:=by
  simp[IntKind.wrap,IntKind.bits,IntKind.signed]
  omega
theorem zvz {n d:Nat}(hd:d≤64):IntKind.u64.wrap ((BitVec.ofInt IntKind.u64.bits ((n:Int).fdiv (2 ^ (min ((d:Int).toNat) IntKind.u64.bits)))&&&BitVec.ofInt IntKind.u64.bits 1).toNat)=if n.testBit d then 1 else 0:=by
  have hb:IntKind.u64.bits=64:=rfl
  have hf:((n:Int).fdiv (2 ^ d))=((n / 2 ^ d:Nat):Int):=by
    rw[Int.fdiv_eq_ediv_of_nonneg _ (Int.pow_nonneg (by decide))];simp
  rw[show min ((d:Int).toNat) IntKind.u64.bits=d by rw[hb];omega,hf,hb]
  have h1:(BitVec.ofInt 64 ((n / 2 ^ d:Nat):Int)).toNat=(n / 2 ^ d) % 2 ^ 64:=by
    rw[BitVec.toNat_ofInt];omega
  have h2:(BitVec.ofInt 64 1).toNat=1:=by decide
  rw[BitVec.toNat_and,h1,h2,Nat.and_one_is_mod,Nat.testBit_eq_decide_div_mod_eq]
  generalize n / 2 ^ d=q at *
  have h3:q % 2 ^ 64 % 2=q % 2:=by omega
  rw[h3]
  by_cases hm:q % 2=1
  · rw[hm];rfl
  · rw[show q % 2=0 by omega];rfl
def Fin (C:Cfg)(pin:Nat)(fn:AFunc)(Q:CRes→List AB→List Nat→Prop)(e:AExit)(st:St):Prop:=∃ x st',finish C pin fn e st=some (x,st')∧pin≤st'.hp.length∧Q x st'.hp st'.tc
theorem zby {C:Cfg}{pin:Nat}{fn:AFunc}{Q:CRes→List AB→List Nat→Prop}{v:AV}{st:St}(hd:st.df=[])(hl:pin≤st.hp.length)(hq:Q (.pan v) st.hp st.tc):Fin C pin fn Q (.panic v) st:=⟨_,_,zpq hd,hl,hq⟩
theorem zmk {C:Cfg}{pin:Nat}{fn:AFunc}{Q:CRes→List AB→List Nat→Prop}{e:AExit}{st:St}{v:AV}(he:e=.ret∨e=.normal)(hd:st.df=[])(hl:pin≤st.hp.length)(hr:(resL st fn.res).map resV=some v)(hq:Q (.ret v) st.hp st.tc):Fin C pin fn Q e st:=by
  obtain ⟨x,st',h1,h2,v',h3,h4⟩:=zer (Q:=fun v hp tc=>Q (.ret v) hp tc) (zao he hd hl hr hq)
  exact ⟨x,st',h1,h2,by rw[h3];exact h4⟩
theorem zbn {C:Cfg}{fn:AFunc}{Q:CRes→List AB→List Nat→Prop}{f t b:Nat}{e:Int}{x:AV}{st:St}{v:AV}(hk:C.dfk f=some (t,true))(hd:st.df=[.call f [.ptr b 0]])(hb:st.hp[b]?=some (.cells [x]))
    (hr:(resL { st with hp:=st.hp.set b (.cells [.int .i64 e]) } fn.res).map resV=some v) (hq:Q (.ret v) (st.hp.set b (.cells [.int .i64 e])) st.tc):Fin C 0 fn Q (.panic (.iface t (.agg [.int .i64 e]))) st:=by
  refine ⟨.ret v,{ st with hp:=st.hp.set b (.cells [.int .i64 e]) },?_,Nat.zero_le _,hq⟩
  show (match runDefs C 0 st.df (some (.iface t (.agg [.int .i64 e]))) st with
    |some (none,st)=>(resL st fn.res).map fun vs=>(CRes.ret (resV vs),st)
    |some (some v,st)=>some (.pan v,st)
    |none=>none)=_
  have:runDefs C 0 st.df (some (.iface t (.agg [.int .i64 e]))) st=some (none,{ st with hp:=st.hp.set b (.cells [.int .i64 e]) }):=by
    conv=>lhs;rw[hd]
    simp only[runDefs,hk,codeOf,hb]
    simp[setAt]
  rw[this]
  simp only
  cases h:resL { st with hp:=st.hp.set b (.cells [.int .i64 e]) } fn.res with
  |none=>rw[h] at hr;cases hr
  |some vs=>rw[h] at hr;cases hr;rfl
theorem zdi {C:Cfg}{pin:Nat}{fn:AFunc}{Q:CRes→List AB→List Nat→Prop}{f b:Nat}{k:Nat × Bool}{e:AExit}{st:St}{v:AV}(he:e=.ret∨e=.normal)(hk:C.dfk f=some k)(hd:st.df=[.call f [.ptr b 0]])(hl:pin≤st.hp.length)
    (hr:(resL st fn.res).map resV=some v) (hq:Q (.ret v) st.hp st.tc):Fin C pin fn Q e st:=by
  refine ⟨.ret v,st,?_,hl,hq⟩
  have h1:runDefs C pin st.df none st=some (none,st):=by
    conv=>lhs;rw[hd]
    simp only[runDefs,hk]
  have : (match runDefs C pin st.df none st with
    |some (none,st)=>(resL st fn.res).map fun vs=>(CRes.ret (resV vs),st)
    |_=>none)=some (.ret v,st):=by
    rw[h1]
    simp only
    cases hr':resL st fn.res with
    |none=>rw[hr'] at hr;cases hr
    |some vs=>rw[hr'] at hr;cases hr;rfl
  rcases he with rfl|rfl<;>exact this
def Ans (v:AV)(x:CRes)(_:List AB)(tc:List Nat):Prop:=x=.ret v∧tc=[]
theorem zdj {C:Cfg}{n f:Nat}{fn:AFunc}{first captured args:List AV}{H:List AB}{Q:CRes→List AB→List Nat→Prop}(hc:C.calm=true)(h0:Has C f fn)(hlen:(first++args++captured).length≤fn.ntmps)
    (h:Does (ev C (Ev.call C n) H.length none fn.body { tm:=tmA fn.ntmps (zipI 0 (first++args++captured) []),df:=[],hp:=H,tc:=[] }) (Fin C H.length fn Q)):
    ∃ x hp tc H',Ev.call C (n+1) (.fn (.func f) first captured) args H=Option.some (x,H',tc)∧Q x hp tc∧Lft H hp tc H'∧(refs x.val≠[]∨tc≠[]→H'.length=hp.length∧∀ j,H.length≤j→H'[j]?=hp[j]?)∧(refs x.val=[]→tc=[]→H'=H):=
  znq hc h0.ext h0.exth h0.fns h0.whole hlen h
abbrev le' {a b:Nat} (h:Nat.ble a b=true):a≤b:=Nat.le_of_ble_eq_true h
theorem zan (fl:List (Nat × List Nat))(d:Nat):(fl.all fun p=>d.testBit p.1 || apart p.2 [])=true:=by simp[apart]
def atP:List Nat→AC→AC
  |0::p,.seq a _=>atP p a
  |1::p,.seq _ b=>atP p b
  |_::p,.block _ c=>atP p c
  |_::p,.loop _ c=>atP p c
  |0::p,.cond _ a _=>atP p a
  |1::p,.cond _ _ b=>atP p b
  |_,c=>c
structure HB (G:List AB) (q:Nat) (x:AB):Prop where
  get:G[q]?=some x
  lt:q<G.length
  lts:∀ n,q<G.length+n
theorem hb {G:List AB}{q:Nat}{x:AB}(h:G[q]?=some x):HB G q x:=⟨h,get_lt h,fun n=>by have:=get_lt h;omega⟩
theorem HB.set {G:List AB}{q r:Nat}{x:AB}(h:HB G q x)(v:AB)(hne:r≠q):HB (G.set r v) q x:=hb (by rw[List.getElem?_set_ne hne];exact h.get)
theorem HB.here {G:List AB}{q:Nat}{x:AB}(h:HB G q x)(v:AB):HB (G.set q v) q v:=hb (by rw[List.getElem?_set_self h.lt])
theorem HB.app {G:List AB}{q:Nat}{x:AB}(h:HB G q x)(K:List AB):HB (G++K) q x:=hb (by rw[List.getElem?_append_left h.lt];exact h.get)
theorem zar {C:Cfg}{call:CallF}{pin:Nat}{nod:Bool}{fl:List (Nat × List Nat)}{o:AOp}{st:St}{v:AV}{hp:List AB}{tc:List Nat}(hg:o.guard=Option.none)(hk:spineK o.op=true)
    (hs:spine call (val C st.tm) st.hp o.op=some (.ret v,hp,tc)) (hd0:Nat.beq o.deps (Nat.sub (Nat.pow 2 o.ix) 1)=true) (hf0:(fl.all fun p=>Nat.ble (p.1+1) o.ix)=true):
    ev1 C call pin nod true fl o st=some (.next Option.none { st with hp:=hp,tm:=putT st.tm o.dst v,tc:=tc.filter (·<pin)++st.tc }):=by
  have hd:o.deps=2 ^ o.ix - 1:=Nat.eq_of_beq_eq_true hd0
  clear hd0
  obtain ⟨ix,dst,op,guard,deps⟩:=o
  dsimp only at hg hk hs hd hf0
  have hf:(fl.all fun p=>deps.testBit p.1)=true:=by
    rw[List.all_eq_true] at hf0 ⊢
    intro p hp
    have:=Nat.le_of_ble_eq_true (hf0 p hp)
    rw[hd,Nat.testBit_two_pow_sub_one]
    exact decide_eq_true (by omega)
  subst hg
  have h1:(fl.all fun p=>deps.testBit p.1 || apart p.2 tc)=true:=by
    rw[List.all_eq_true] at hf ⊢
    intro p hp
    rw[hf p hp,Bool.true_or]
  unfold ev1
  simp only[wantG]
  cases op<;>first|(simp only[spine] at hs;cases hs;done)|(simp only[spineK] at hk;cases hk;done)|(simp only[hs,h1,Bool.or_true,spineK,cond_true])
theorem zaz (fl:List (Nat × List Nat))(d b:Nat)(h:(fl.all fun p=>apart p.2 [b])=true):(fl.all fun p=>d.testBit p.1 || apart p.2 [b])=true:=by
  rw[List.all_eq_true] at h ⊢
  intro p hp
  rw[h p hp,Bool.or_true]
def ints (l:List Int):List AV:=l.map (AV.int .i64)
theorem zib:∀ l,(ints l).all AV.plain=true
  |[]=>rfl
  |a::l=>by simp only[ints,List.map_cons,List.all_cons];exact zib l
end K
end Ev
end Go.Proofs.Ytlcjlcllbgjplaa

/- The code of the functions, for the evaluator. Printed by program. -/
namespace Go.Proofs.Ytlcjlcllbgjplaa
open Go
namespace Ev
def af11:AFunc:=⟨18,[.cell 2 (some 2)],Zq [Zo 0 2 (.alloc [.nils,.nils])] (Zq [Zo 0 3 (Zc 12 [Zn 10,Zn 11]),Zo 1 4 (Zc 12 [Zn 2,Zn 2]),Zo 2 5 (Zc 12 [Zn 1,Zn 1]),Zo 3 6 (.build [Zi 0,Zi 0,Zi 0,Zi 0,Zi 0,Zi 0,Zi 0] [(0,(2,Zt 3)),(2,(2,Zt 4)),(4,(2,Zt 5)),(6,(1,Zn 12))]),Zo 4 7 (Zc 12 [Zn 8,Zn 8]),Zo 5 8 (Zc 12 [Zn 3,Zn 4]),Zo 6 9 (Zc 12 [Zn 0,Zn 1]),Zo 7 10 (.build [Zi 0,Zi 0,Zi 0,Zi 0,Zi 0,Zi 0,Zi 0] [(0,(2,Zt 7)),(2,(2,Zt 8)),(4,(2,Zt 9)),(6,(1,Zn 9))]),Zo 8 11 (.buildSl 7 2 [Zi 0,Zi 0,Zi 0,Zi 0,Zi 0,Zi 0,Zi 0] [(0,Zt 6),(1,Zt 10)]),Zo 9 12 (Zc 31 [Zn 6,Zn 6]),Zo 10 13 (Zc 33 [Zn 2]),Zo 11 14 (.buildSl 7 2 [Zi 0,Zi 0,Zi 0,Zi 0,Zi 0,Zi 0,Zi 0] [(0,Zt 12),(1,Zt 13)]),Zm 12 15 0,Zo 13 16 (.append 7 (Zt 14) (Zt 15)),Zo 14 17 (.build [.nils,.nils] [(0,(1,Zt 11)),(1,(1,Zt 16))]),Zs 15 (.store 2 (Zt 2) (Zt 17))] .ret)⟩
def af12:AFunc:=⟨8,[.cell 4 (some 2)],Zq [Zo 0 4 (.alloc [Zi 0,Zi 0])] (Zq [Zm 0 5 0,Zm 1 6 1,Zo 2 7 (.build [Zi 0,Zi 0] [(0,(1,Zt 5)),(1,(1,Zt 6))]),Zs 3 (.store 2 (Zt 4) (Zt 7))] .ret)⟩
def af13:AFunc:=⟨4,[.cell 0 (some 2)],Zq [Zo 0 0 (.alloc [.nils,.nils])] (Zq [Zo 0 1 (Zc 30 [Zn 1,Zn 7,Zn 9]),Zo 1 2 (.buildSl 7 1 [Zi 0,Zi 0,Zi 0,Zi 0,Zi 0,Zi 0,Zi 0] [(0,Zt 1)]),Zo 2 3 (Zc 11 [Zt 2]),Zs 3 (.store 2 (Zt 0) (Zt 3))] .ret)⟩
def af14:AFunc:=⟨17,[.cell 6 (some 2),.cell 7 none],Zq [Zo 0 3 (.box (Zt 0)),Zo 1 4 (.box (Zt 1)),Zo 2 5 (.box (Zt 2)),Zo 3 6 (.alloc [Zi 0,Zi 0]),Zo 4 7 (.alloc [Zi 0])] (Zq [Zo 0 8 (.mkfn (Fn.func 37) [] [Zt 7]),Zs 1 (.defer (Zt 8) [])] (.seq (.draw [Zo 0 9 (.load (some 2) (Zt 3)),Zo 1 10 (.mkfn (Fn.func 40) [] [Zt 4,Zt 5]),Zl 4 13 4,Zl 5 14 5,Zd 6 15 32 (.bin .add (Zt 14) (Zn 1)),Zd 2 11 3 (Zc 39 [Zt 9,Zt 10]),Zd 3 12 7 (Zc 43 [Zt 11]),Zd 7 16 127 (Zc 44 [Zt 12,Zt 13,Zt 15]),Ze 8 255 (.store 2 (Zt 6) (Zt 16)),Ze 9 511 (.store 1 (Zt 7) (Zn 0))]) .ret))⟩
def af15:AFunc:=⟨17,[.cell 6 (some 2),.cell 7 none],Zq [Zo 0 3 (.box (Zt 0)),Zo 1 4 (.box (Zt 1)),Zo 2 5 (.box (Zt 2)),Zo 3 6 (.alloc [Zi 0,Zi 0]),Zo 4 7 (.alloc [Zi 0])] (Zq [Zo 0 9 (.mkfn (Fn.func 45) [] [Zt 7]),Zs 1 (.defer (Zt 9) [])] (Zq [Zo 0 8 (.alloc [.nilfn]),Zs 1 (.store 1 (Zt 8) (.val (.fn (Fn.func 46) [] [])))] (.seq (.draw [Zo 0 10 (.load (some 2) (Zt 3)),Zo 1 11 (.mkfn (Fn.func 47) [] [Zt 4,Zt 5]),Zl 4 14 4,Zo 5 15 (.mkfn (Fn.func 50) [] [Zt 8,Zt 5]),Zd 2 12 3 (Zc 39 [Zt 10,Zt 11]),Zd 3 13 7 (Zc 43 [Zt 12]),Zd 6 16 63 (Zc 49 [Zt 13,Zt 14,Zt 15]),Ze 7 127 (.store 2 (Zt 6) (Zt 16)),Ze 8 255 (.store 1 (Zt 7) (Zn 0))]) .ret)))⟩
def af16:AFunc:=⟨20,[.tmp 4,.cell 5 none],Zq [Zo 0 2 (.box (Zt 0)),Zo 1 3 (.box (Zt 1)),Zo 2 4 (.mov (Zn 0)),Zo 3 5 (.alloc [Zi 0])] (Zq [Zo 0 7 (.mkfn (Fn.func 51) [] [Zt 5]),Zs 1 (.defer (Zt 7) [])] (Zq [Zo 0 8 (.load (some 2) (Zt 2)),Zo 1 9 (.mkfn (Fn.func 52) [] [Zt 3]),Zo 2 10 (Zc 39 [Zt 8,Zt 9]),Zo 3 11 (Zc 43 [Zt 10]),Zm 4 6 11] (.seq (.block 0 (Zq [Zm 0 13 6,Zl 1 14 3,Zo 2 15 (Zc 53 [Zt 13,Zn 0,Zt 14]),Zm 3 12 15] (.cond (Zt 12) (Zq [Zo 0 4 (.mov (Zn 2)),Zs 1 (.store 1 (Zt 5) (Zn 0))] .ret) (Zq [Zm 0 17 6,Zl 1 18 3,Zo 2 19 (Zc 54 [Zt 17,Zt 18]),Zm 3 16 19] (.cond (Zt 16) (Zq [Zo 0 4 (.mov (Zn 1)),Zs 1 (.store 1 (Zt 5) (Zn 0))] .ret) .skip))))) (Zq [Zo 0 4 (.mov (Zn 0)),Zs 1 (.store 1 (Zt 5) (Zn 0))] .ret))))⟩
def af17:AFunc:=⟨16,[.tmp 4,.cell 5 none],Zq [Zo 0 2 (.box (Zt 0)),Zo 1 3 (.box (Zt 1)),Zo 2 4 (.mov (Zn 0)),Zo 3 5 (.alloc [Zi 0])] (Zq [Zo 0 7 (.mkfn (Fn.func 55) [] [Zt 5]),Zs 1 (.defer (Zt 7) [])] (Zq [Zo 0 8 (.load (some 2) (Zt 2)),Zo 1 9 (.mkfn (Fn.func 56) [] [Zt 3]),Zo 2 10 (Zc 39 [Zt 8,Zt 9]),Zo 3 11 (Zc 43 [Zt 10]),Zo 4 6 (.alloc [.nilp]),Zs 5 (.store 1 (Zt 6) (Zt 11))] (Zq [Zo 0 12 (Zc 58 [Zn 0,Zn 10]),Zo 1 13 (.mkfn (Fn.func 59) [] [Zt 6,Zt 3]),Zo 2 14 (.build [.nilfn] [(0,(1,Zt 13))]),Zo 3 15 (Zc 57 [Zt 12,Zt 14]),Zm 4 4 15,Zs 5 (.store 1 (Zt 5) (Zn 0))] .ret)))⟩
def af18:AFunc:=⟨45,[.tmp 2,.cell 3 none],Zq [Zo 0 1 (.box (Zt 0)),Zo 1 2 (.mov (Zn 0)),Zo 2 3 (.alloc [Zi 0])] (Zq [Zo 0 8 (.mkfn (Fn.func 60) [] [Zt 3]),Zs 1 (.defer (Zt 8) [])] (Zq [Zo 0 9 (.load (some 2) (Zt 1)),Zo 1 10 (Zc 39 [Zt 9,.val (.fn (Fn.func 61) [] [])]),Zo 2 4 (.alloc [.nilp]),Zs 3 (.store 1 (Zt 4) (Zt 10))] (.seq (.draw [Zl 0 11 4,Zl 1 12 4,Zd 2 13 2 (Zc 64 [Zt 12]),Zd 3 14 7 (Zc 63 [Zt 11,Zt 13]),Zd 4 15 15 (.not (Zt 14)),Zd 5 16 31 (Zc 62 [Zt 15,Zn 4])]) (Zq [Zo 0 5 (.mov (.val .nils))] (.seq (Zq [Zl 0 17 4,Zo 1 18 (Zc 64 [Zt 17]),Zo 2 19 (.bin .add (Zt 18) (.val (.int .u64 1))),Zo 3 20 (.mov (.val (.int .u64 0)))] (.block 0 (.loop [3,4,5,19,20] (Zq [Zo 0 21 (.bin .lss (Zt 20) (Zt 19))] (.seq (.cond (Zt 21) .skip (.exit 0)) (.seq (.block 1 (Zq [Zm 0 22 20,Zm 1 6 22] (Zq [Zl 0 23 4,Zm 1 24 6,Zo 2 25 (Zc 65 [Zt 23,Zt 24])] (.cond (Zt 25) (.ops [Zm 0 26 5,Zm 1 27 6,Zo 2 28 (.buildSl 1 1 [.int .u64 0] [(0,Zt 27)]),Zo 3 29 (.append 1 (Zt 26) (Zt 28)),Zm 4 5 29]) .skip)))) (.ops [Zo 0 30 (.bin .add (Zt 20) (.val (.int .u64 1))),Zm 1 20 30]))))))) (Zq [Zm 0 31 5,Zo 1 32 (.len (Zt 31)),Zo 2 33 (.mksl 1 [.int .u64 0] (Zt 32) (Zt 32)),Zm 3 7 33] (Zq [Zm 0 34 7,Zm 1 35 5,Zo 2 36 (.copy 1 (Zt 34) (Zt 35))] (Zq [Zm 0 37 7,Zo 1 38 (Zc 66 [Zt 37,.val (.fn (Fn.func 67) [] [])])] (Zq [Zm 0 39 7,Zo 1 40 (Zc 70 [Zt 39]),Zo 2 41 (.mkfn (Fn.func 71) [] [Zt 4]),Zo 3 42 (.build [.nilfn] [(0,(1,Zt 41))]),Zo 4 43 (Zc 69 [Zt 40,Zt 42]),Zo 5 44 (.conv .i64 (Zt 43)),Zm 6 2 44,Zs 7 (.store 1 (Zt 3) (Zn 0))] .ret)))))))))⟩
def af19:AFunc:=⟨13,[.tmp 2,.cell 3 none],Zq [Zo 0 1 (.box (Zt 0)),Zo 1 2 (.mov (Zn 0)),Zo 2 3 (.alloc [Zi 0])] (Zq [Zo 0 5 (.mkfn (Fn.func 72) [] [Zt 3]),Zs 1 (.defer (Zt 5) [])] (Zq [Zo 0 6 (.load (some 2) (Zt 1)),Zo 1 7 (Zc 39 [Zt 6,.val (.fn (Fn.func 61) [] [])]),Zo 2 8 (Zc 43 [Zt 7]),Zo 3 4 (.alloc [.nilp]),Zs 4 (.store 1 (Zt 4) (Zt 8))] (Zq [Zo 0 9 (Zc 58 [Zn 60,Zn 0]),Zo 1 10 (.mkfn (Fn.func 73) [] [Zt 4]),Zo 2 11 (.build [.nilfn] [(0,(1,Zt 10))]),Zo 3 12 (Zc 57 [Zt 9,Zt 11]),Zm 4 2 12,Zs 5 (.store 1 (Zt 3) (Zn 0))] .ret)))⟩
def af20:AFunc:=⟨5,[.cell 0 (some 2)],Zq [Zo 0 0 (.alloc [.nils,.nils])] (Zq [Zo 0 1 (Zc 30 [Zn 1,Zn 7,Zn 9]),Zo 1 2 (Zc 30 [Zn 1,Zn 6,Zn 6]),Zo 2 3 (.buildSl 7 2 [Zi 0,Zi 0,Zi 0,Zi 0,Zi 0,Zi 0,Zi 0] [(0,Zt 1),(1,Zt 2)]),Zo 3 4 (Zc 11 [Zt 3]),Zs 4 (.store 2 (Zt 0) (Zt 4))] .ret)⟩
def af21:AFunc:=⟨127,[.tmp 0],Zq [Zo 0 0 (.mov (.val (.bool false)))] (Zq [Zo 0 19 (Zc 11 [.val .nils]),Zo 1 20 (Zc 14 [Zt 19,Zn 1,Zn 1]),Zm 2 18 20,Zo 3 21 (.extract (Zt 18) 0),Zo 4 22 (.extract (Zt 18) 1),Zo 5 1 (.alloc [Zi 0,Zi 0]),Zs 6 (.store 2 (Zt 1) (Zt 21)),Zm 7 2 22] (Zq [Zo 0 24 (Zc 11 [.val .nils]),Zo 1 25 (Zc 15 [Zt 24,Zn 1,Zn 8]),Zm 2 23 25,Zo 3 26 (.extract (Zt 23) 0),Zo 4 27 (.extract (Zt 23) 1),Zo 5 3 (.alloc [Zi 0,Zi 0]),Zs 6 (.store 2 (Zt 3) (Zt 26)),Zm 7 4 27] (Zq [Zo 0 29 (Zc 11 [.val .nils]),Zo 1 30 (Zc 16 [Zt 29,Zn 20]),Zm 2 28 30,Zo 3 31 (.extract (Zt 28) 0),Zo 4 32 (.extract (Zt 28) 1),Zm 5 5 31,Zm 6 6 32] (Zq [Zo 0 34 (Zc 11 [.val .nils]),Zo 1 35 (Zc 19 [Zt 34]),Zm 2 33 35,Zo 3 36 (.extract (Zt 33) 0),Zo 4 37 (.extract (Zt 33) 1),Zm 5 7 36,Zm 6 8 37] (Zq [Zo 0 39 (Zc 13 []),Zo 1 40 (Zc 17 [Zt 39,Zn 20]),Zm 2 38 40,Zo 3 41 (.extract (Zt 38) 0),Zo 4 42 (.extract (Zt 38) 1),Zm 5 9 41,Zm 6 10 42] (Zq [Zo 0 44 (Zc 11 [.val .nils]),Zo 1 45 (Zc 26 [Zt 44]),Zm 2 43 45,Zo 3 46 (.extract (Zt 43) 0),Zo 4 47 (.extract (Zt 43) 1),Zo 5 48 (.extract (Zt 43) 2),Zm 6 11 46,Zm 7 12 47,Zm 8 13 48] (Zq [Zo 0 50 (Zc 11 [.val .nils]),Zo 1 51 (Zc 34 [Zt 50]),Zm 2 49 51,Zo 3 52 (.extract (Zt 49) 0),Zo 4 53 (.extract (Zt 49) 1),Zm 5 14 52,Zm 6 15 53] (Zq [Zo 0 55 (Zc 20 []),Zo 1 56 (Zc 18 [Zt 55]),Zm 2 54 56,Zo 3 57 (.extract (Zt 54) 0),Zo 4 58 (.extract (Zt 54) 1),Zm 5 16 57,Zm 6 17 58] (.seq (.draw [Zo 0 59 (.load (some 2) (Zt 1)),Zo 1 60 (Zc 12 [Zn 6,Zn 8]),Zd 2 61 3 (.eq (.agg [true,true]) false (Zt 59) (Zt 60)),Zd 3 62 7 (.mov (Zt 61)),⟨4,some 63,.mov (Zt 2),some (62,true),15⟩,⟨5,some 64,.bin .eql (Zt 63) (Zn 0),some (62,true),31⟩,Zd 6 65 63 (.pick (Zt 62) (Zt 64) (.val (.bool false))),Zd 7 66 127 (.mov (Zt 65)),⟨8,some 67,.load (some 2) (Zt 3),some (66,true),255⟩,⟨9,some 68,Zc 12 [Zn 2,Zn 3],some (66,true),255⟩,⟨10,some 69,.eq (.agg [true,true]) false (Zt 67) (Zt 68),some (66,true),1023⟩,Zd 11 70 2047 (.pick (Zt 66) (Zt 69) (.val (.bool false))),Zd 12 71 4095 (.mov (Zt 70)),⟨13,some 72,.mov (Zt 4),some (71,true),8191⟩,⟨14,some 73,.bin .eql (Zt 72) (Zn 0),some (71,true),16383⟩,Zd 15 74 32767 (.pick (Zt 71) (Zt 73) (.val (.bool false))),Zd 16 75 65535 (.mov (Zt 74)),⟨17,some 76,.mov (Zt 5),some (75,true),131071⟩,⟨18,some 77,.bin .eql (Zt 76) (Zn 1),some (75,true),262143⟩,Zd 19 78 524287 (.pick (Zt 75) (Zt 77) (.val (.bool false))),Zd 20 79 1048575 (.mov (Zt 78)),⟨21,some 80,.mov (Zt 6),some (79,true),2097151⟩,⟨22,some 81,.bin .eql (Zt 80) (Zn 0),some (79,true),4194303⟩,Zd 23 82 8388607 (.pick (Zt 79) (Zt 81) (.val (.bool false))),Zd 24 83 16777215 (.mov (Zt 82)),⟨25,some 84,.mov (Zt 7),some (83,true),33554431⟩,⟨26,some 85,.bin .eql (Zt 84) (Zn 18),some (83,true),67108863⟩,Zd 27 86 134217727 (.pick (Zt 83) (Zt 85) (.val (.bool false))),Zd 28 87 268435455 (.mov (Zt 86)),⟨29,some 88,.mov (Zt 8),some (87,true),536870911⟩,⟨30,some 89,.bin .eql (Zt 88) (Zn 0),some (87,true),1073741823⟩,Zd 31 90 2147483647 (.pick (Zt 87) (Zt 89) (.val (.bool false))),Zd 32 91 4294967295 (.mov (Zt 90)),⟨33,some 92,.mov (Zt 9),some (91,true),8589934591⟩,⟨34,some 93,.bin .eql (Zt 92) (Zn 1),some (91,true),17179869183⟩,Zd 35 94 34359738367 (.pick (Zt 91) (Zt 93) (.val (.bool false))),Zd 36 95 68719476735 (.mov (Zt 94)),⟨37,some 96,.mov (Zt 10),some (95,true),137438953471⟩,⟨38,some 97,.bin .eql (Zt 96) (Zn 0),some (95,true),274877906943⟩,Zd 39 98 549755813887 (.pick (Zt 95) (Zt 97) (.val (.bool false))),Zd 40 99 1099511627775 (.mov (Zt 98)),⟨41,some 100,.mov (Zt 11),some (99,true),2199023255551⟩,⟨42,some 101,.bin .eql (Zt 100) (Zn 0),some (99,true),4398046511103⟩,Zd 43 102 8796093022207 (.pick (Zt 99) (Zt 101) (.val (.bool false))),Zd 44 103 17592186044415 (.mov (Zt 102)),⟨45,some 104,.mov (Zt 12),some (103,true),35184372088831⟩,⟨46,some 105,.bin .eql (Zt 104) (Zn 0),some (103,true),70368744177663⟩,Zd 47 106 140737488355327 (.pick (Zt 103) (Zt 105) (.val (.bool false))),Zd 48 107 281474976710655 (.mov (Zt 106)),⟨49,some 108,.mov (Zt 13),some (107,true),562949953421311⟩,⟨50,some 109,.bin .eql (Zt 108) (Zn 0),some (107,true),1125899906842623⟩,Zd 51 110 2251799813685247 (.pick (Zt 107) (Zt 109) (.val (.bool false))),Zd 52 111 4503599627370495 (.mov (Zt 110)),⟨53,some 112,.mov (Zt 14),some (111,true),9007199254740991⟩,⟨54,some 113,.bin .eql (Zt 112) (Zn 1),some (111,true),18014398509481983⟩,Zd 55 114 36028797018963967 (.pick (Zt 111) (Zt 113) (.val (.bool false))),Zd 56 115 72057594037927935 (.mov (Zt 114)),⟨57,some 116,.mov (Zt 15),some (115,true),144115188075855871⟩,⟨58,some 117,.bin .eql (Zt 116) (Zn 0),some (115,true),288230376151711743⟩,Zd 59 118 576460752303423487 (.pick (Zt 115) (Zt 117) (.val (.bool false))),Zd 60 119 1152921504606846975 (.mov (Zt 118)),⟨61,some 120,.mov (Zt 16),some (119,true),2305843009213693951⟩,⟨62,some 121,.bin .eql (Zt 120) (Zn 12),some (119,true),4611686018427387903⟩,Zd 63 122 9223372036854775807 (.pick (Zt 119) (Zt 121) (.val (.bool false))),Zd 64 123 18446744073709551615 (.mov (Zt 122)),⟨65,some 124,.mov (Zt 17),some (123,true),36893488147419103231⟩,⟨66,some 125,.bin .eql (Zt 124) (Zn 0),some (123,true),73786976294838206463⟩,Zd 67 126 147573952589676412927 (.pick (Zt 123) (Zt 125) (.val (.bool false))),Zd 68 0 295147905179352825855 (.mov (Zt 126))]) .ret)))))))))⟩
def af22:AFunc:=⟨11,[.tmp 2],Zq [Zo 0 1 (.box (Zt 0)),Zo 1 2 (.mov (.val (.bool false)))] (Zq [Zo 0 3 (.fieldA 0 (Zt 1)),Zl 1 4 3,Zo 2 5 (.len (Zt 4)),Zo 3 6 (.fieldA 1 (Zt 1)),Zl 4 7 6,Zo 5 8 (.len (Zt 7)),Zo 6 9 (.max [Zt 5,Zt 8]),Zo 7 10 (.bin .gtr (Zt 9) (Zn 40)),Zm 8 2 10] .ret)⟩
def af23:AFunc:=⟨87,[.tmp 2],Zq [Zo 0 1 (.box (Zt 0)),Zo 1 2 (.mov (.val (.bool false)))] (.seq (Zq [Zo 0 8 (.fieldA 0 (Zt 1)),Zl 1 9 8,Zo 2 10 (.len (Zt 9)),Zo 3 11 (Zc 74 [Zt 10,Zn 1,Zn 4]),Zo 4 12 (.not (Zt 11)),Zm 5 13 12,⟨6,some 14,.fieldA 1 (Zt 1),some (13,false),0⟩,⟨7,some 15,.load none (Zt 14),some (13,false),0⟩,⟨8,some 16,.len (Zt 15),some (13,false),0⟩,⟨9,some 17,.bin .gtr (Zt 16) (Zn 10),some (13,false),0⟩,Zo 10 18 (.pick (Zt 13) (.val (.bool true)) (Zt 17))] (.cond (Zt 18) (Zq [Zo 0 2 (.mov (.val (.bool false)))] .ret) .skip)) (.seq (Zq [Zo 0 3 (.mov (Zn 0))] (.block 0 (.loop [1,3] (.seq (Zq [Zm 0 19 3,Zo 1 20 (.fieldA 0 (Zt 1)),Zl 2 21 20,Zo 3 22 (.len (Zt 21)),Zo 4 23 (.bin .lss (Zt 19) (Zt 22))] (.cond (Zt 23) .skip (.exit 0))) (.seq (.block 1 (Zq [Zo 0 26 (.fieldA 0 (Zt 1)),Zl 1 27 26,Zm 2 28 3,Zo 3 29 (.indexA 7 none (Zt 27) (Zt 28)),Zo 4 30 (.load (some 7) (Zt 29)),Zo 5 4 (.alloc [Zi 0,Zi 0,Zi 0,Zi 0,Zi 0,Zi 0,Zi 0]),Zs 6 (.store 7 (Zt 4) (Zt 30))] (Zq [Zo 0 31 (.fieldA 6 (Zt 4)),Zl 1 32 31,Zo 2 33 (Zc 74 [Zt 32,Zn 0,Zn 60]),Zo 3 34 (.not (Zt 33)),Zm 4 35 34,⟨5,some 36,.fieldA 0 (Zt 4),some (35,false),0⟩,⟨6,some 37,.load (some 2) (Zt 36),some (35,false),0⟩,⟨7,some 38,.fieldA 6 (Zt 4),some (35,false),0⟩,⟨8,some 39,.load none (Zt 38),some (35,false),0⟩,⟨9,some 40,Zc 75 [Zt 37,Zn 0,Zt 39,Zn 2],some (35,false),0⟩,⟨10,some 41,.not (Zt 40),some (35,false),0⟩,Zo 11 42 (.pick (Zt 35) (.val (.bool true)) (Zt 41)),Zm 12 43 42,⟨13,some 44,.fieldA 2 (Zt 4),some (43,false),0⟩,⟨14,some 45,.load (some 2) (Zt 44),some (43,false),0⟩,⟨15,some 46,Zc 75 [Zt 45,Zn 1,Zn 10,Zn 2],some (43,false),0⟩,⟨16,some 47,.not (Zt 46),some (43,false),0⟩,Zo 17 48 (.pick (Zt 43) (.val (.bool true)) (Zt 47)),Zm 18 49 48,⟨19,some 50,.fieldA 4 (Zt 4),some (49,false),0⟩,⟨20,some 51,.load (some 2) (Zt 50),some (49,false),0⟩,⟨21,some 52,Zc 75 [Zt 51,Zn 0,Zn 5,Zn 2],some (49,false),0⟩,⟨22,some 53,.not (Zt 52),some (49,false),0⟩,Zo 23 54 (.pick (Zt 49) (.val (.bool true)) (Zt 53))] (.cond (Zt 54) (Zq [Zo 0 2 (.mov (.val (.bool false)))] .ret) .skip)))) (.ops [Zm 0 24 3,Zo 1 25 (.bin .add (Zt 24) (Zn 1)),Zm 2 3 25])))))) (Zq [Zo 0 5 (.mov (Zn 0))] (.seq (Zq [Zo 0 6 (.mov (Zn 0))] (.block 2 (.loop [1,5,6] (.seq (Zq [Zm 0 55 6,Zo 1 56 (.fieldA 1 (Zt 1)),Zl 2 57 56,Zo 3 58 (.len (Zt 57)),Zo 4 59 (.bin .lss (Zt 55) (Zt 58))] (.cond (Zt 59) .skip (.exit 2))) (.seq (.block 3 (Zq [Zo 0 62 (.fieldA 1 (Zt 1)),Zl 1 63 62,Zm 2 64 6,Zo 3 65 (.indexA 7 none (Zt 63) (Zt 64)),Zo 4 66 (.load (some 7) (Zt 65)),Zo 5 7 (.alloc [Zi 0,Zi 0,Zi 0,Zi 0,Zi 0,Zi 0,Zi 0]),Zs 6 (.store 7 (Zt 7) (Zt 66))] (.seq (Zq [Zo 0 67 (.load (some 2) (Zt 1)),Zo 1 68 (.load (some 7) (Zt 7)),Zo 2 69 (Zc 76 [Zt 67,Zt 68]),Zo 3 70 (.not (Zt 69))] (.cond (Zt 70) (Zq [Zo 0 2 (.mov (.val (.bool false)))] .ret) .skip)) (Zq [Zo 0 71 (.fieldA 0 (Zt 7)),Zl 1 72 71,Zo 2 73 (.bin .eql (Zt 72) (Zn 0)),Zm 3 74 73,⟨4,some 75,.fieldA 1 (Zt 7),some (74,true),0⟩,⟨5,some 76,.fieldA 0 (Zt 75),some (74,true),0⟩,⟨6,some 77,.load none (Zt 76),some (74,true),0⟩,⟨7,some 78,.fieldA 1 (Zt 7),some (74,true),0⟩,⟨8,some 79,.fieldA 1 (Zt 78),some (74,true),0⟩,⟨9,some 80,.load none (Zt 79),some (74,true),0⟩,⟨10,some 81,.bin .lss (Zt 77) (Zt 80),some (74,true),0⟩,Zo 11 82 (.pick (Zt 74) (Zt 81) (.val (.bool false)))] (.cond (Zt 82) (.ops [Zm 0 83 5,Zo 1 84 (.bin .add (Zt 83) (Zn 1)),Zm 2 5 84]) .skip))))) (.ops [Zm 0 60 6,Zo 1 61 (.bin .add (Zt 60) (Zn 1)),Zm 2 6 61])))))) (Zq [Zm 0 85 5,Zo 1 86 (.bin .leq (Zt 85) (Zn 4)),Zm 2 2 86] .ret)))))⟩
def af26:AFunc:=⟨96,[.tmp 2,.tmp 3,.cell 4 none],Zq [Zo 0 1 (.box (Zt 0)),Zo 1 2 (.mov (Zn 0)),Zo 2 3 (.mov (Zn 0)),Zo 3 4 (.alloc [Zi 0])] (Zq [Zo 0 15 (.mkfn (Fn.func 78) [] [Zt 4]),Zs 1 (.defer (Zt 15) [])] (Zq [Zo 0 16 (.load (some 2) (Zt 1)),Zo 1 17 (Zc 39 [Zt 16,.val (.fn (Fn.func 61) [] [])]),Zo 2 18 (Zc 43 [Zt 17]),Zo 3 5 (.alloc [.nilp]),Zs 4 (.store 1 (Zt 5) (Zt 18))] (Zq [Zo 0 19 (.fieldA 1 (Zt 1)),Zl 1 20 19,Zo 2 21 (.len (Zt 20)),Zo 3 22 (.bin .shl (Zn 1) (Zt 21)),Zo 4 23 (.bin .sub (Zt 22) (Zn 1)),Zo 5 6 (.alloc [Zi 0]),Zo 6 7 (.alloc [Zi 0]),Zs 7 (.store 1 (Zt 6) (Zt 23)),Zs 8 (.store 1 (Zt 7) (Zn 0))] (.seq (.seq (.draw [Zl 0 24 5,Zl 1 25 5,Zd 2 26 2 (Zc 64 [Zt 25]),Zd 3 27 7 (Zc 79 [Zt 24,Zt 26])]) (.block 0 (.rangeF (Zt 27) [28] (.ops [Zo 0 8 (.alloc [Zi 0,Zi 0,Zi 0,Zi 0,Zi 0,Zi 0,Zi 0,Zi 0,Zi 0,Zi 0]),Zs 1 (.store 10 (Zt 8) (Zt 28))]) (.block 1 (Zq [Zo 0 29 (.fieldA 1 (Zt 1)),Zl 1 30 29,Zo 2 31 (.len (Zt 30)),Zo 3 32 (.mov (Zn 0))] (.block 2 (.loop [1,5,6,7,8,31,32] (Zq [Zo 0 33 (.bin .lss (Zt 32) (Zt 31))] (.seq (.cond (Zt 33) .skip (.exit 2)) (.seq (.block 3 (Zq [Zm 0 34 32,Zm 1 9 34] (Zq [Zo 0 10 (.mov (.val (.bool false)))] (.seq (Zq [Zo 0 35 (.fieldA 0 (Zt 1)),Zl 1 36 35,Zo 2 37 (.len (Zt 36)),Zo 3 38 (.mov (Zn 0))] (.block 4 (.loop [1,5,6,7,8,9,10,31,32,37,38] (Zq [Zo 0 39 (.bin .lss (Zt 38) (Zt 37))] (.seq (.cond (Zt 39) .skip (.exit 4)) (.seq (.block 5 (Zq [Zm 0 40 38,Zm 1 11 40] (Zq [Zo 0 12 (.mov (.val (.bool true)))] (.seq (.seq (.draw [Zl 0 41 5,Zm 1 42 11,Zo 2 43 (.load (some 10) (Zt 8)),Zl 3 44 5,Zo 7 48 (.mov (Zn 0)),Zd 4 45 8 (Zc 64 [Zt 44]),Zd 5 46 31 (Zc 80 [Zt 41,Zt 42,Zt 43,Zt 45]),Zd 6 47 63 (.len (Zt 46))]) (.block 6 (.loop [1,5,6,7,8,9,10,12,31,32,37,38,46,47,48] (Zq [Zo 0 49 (.bin .lss (Zt 48) (Zt 47))] (.seq (.cond (Zt 49) .skip (.exit 6)) (.seq (.block 7 (Zq [Zo 0 50 (.indexA 5 none (Zt 46) (Zt 48)),Zo 1 51 (.load (some 5) (Zt 50)),Zo 2 14 (.alloc [Zi 0,Zi 0,Zi 0,Zi 0,Zi 0]),Zs 3 (.store 5 (Zt 14) (Zt 51))] (.seq (Zq [Zl 0 52 5,Zo 1 53 (.fieldA 0 (Zt 14)),Zo 2 54 (.load (some 3) (Zt 53)),Zo 3 55 (.fieldA 3 (Zt 14)),Zo 4 56 (.fieldA 0 (Zt 55)),Zl 5 57 56,Zo 6 58 (.load (some 10) (Zt 8)),Zm 7 59 9,Zo 8 60 (.bin .add (Zt 59) (Zn 1)),Zo 9 61 (Zc 81 [Zt 52,Zt 54,Zt 57,Zt 58,Zt 60]),Zo 10 62 (.bin .lss (Zt 61) (Zn 0))] (.cond (Zt 62) (.draw [Zl 0 63 7,Zm 1 64 9,Zd 2 65 2 (.bin .shl (Zn 1) (Zt 64)),Zd 3 66 7 (.bin .or (Zt 63) (Zt 65)),Ze 4 15 (.store 1 (Zt 7) (Zt 66))]) .skip)) (.ops [Zm 0 67 12,Zm 1 68 67,⟨2,some 69,.load none (Zt 5),some (68,true),0⟩,⟨3,some 70,.fieldA 0 (Zt 14),some (68,true),0⟩,⟨4,some 71,.load (some 3) (Zt 70),some (68,true),0⟩,⟨5,some 72,.fieldA 3 (Zt 14),some (68,true),0⟩,⟨6,some 73,.fieldA 1 (Zt 72),some (68,true),0⟩,⟨7,some 74,.load none (Zt 73),some (68,true),0⟩,⟨8,some 75,.load (some 10) (Zt 8),some (68,true),0⟩,⟨9,some 76,.mov (Zt 9),some (68,true),0⟩,⟨10,some 77,.bin .add (Zt 76) (Zn 1),some (68,true),0⟩,⟨11,some 78,Zc 81 [Zt 69,Zt 71,Zt 74,Zt 75,Zt 77],some (68,true),0⟩,⟨12,some 79,.bin .lss (Zt 78) (Zn 0),some (68,true),0⟩,Zo 13 80 (.pick (Zt 68) (Zt 79) (.val (.bool false))),Zm 14 12 80])))) (.ops [Zo 0 81 (.bin .add (Zt 48) (Zn 1)),Zm 1 48 81]))))))) (.ops [Zm 0 82 10,Zm 1 83 82,⟨2,some 84,.mov (Zt 12),some (83,false),0⟩,Zo 3 85 (.pick (Zt 83) (.val (.bool true)) (Zt 84)),Zm 4 10 85]))))) (.ops [Zo 0 86 (.bin .add (Zt 38) (Zn 1)),Zm 1 38 86]))))))) (Zq [Zm 0 87 10,Zo 1 88 (.not (Zt 87))] (.cond (Zt 88) (.draw [Zl 0 89 6,Zm 1 90 9,Zd 2 91 2 (.bin .shl (Zn 1) (Zt 90)),Zd 3 92 7 (.bin .andNot (Zt 89) (Zt 91)),Ze 4 15 (.store 1 (Zt 6) (Zt 92))]) .skip)))))) (.ops [Zo 0 93 (.bin .add (Zt 32) (Zn 1)),Zm 1 32 93]))))))))))) (.seq (.draw [Zl 0 94 6,Zl 1 95 7,Zd 2 2 1 (.mov (Zt 94)),Zd 3 3 7 (.mov (Zt 95)),Ze 4 15 (.store 1 (Zt 4) (Zn 0))]) .ret)))))⟩
def af30:AFunc:=⟨12,[.cell 6 (some 7)],Zq [Zo 0 6 (.alloc [Zi 0,Zi 0,Zi 0,Zi 0,Zi 0,Zi 0,Zi 0])] (Zq [Zm 0 7 0,Zm 1 8 1,Zm 2 9 2,Zo 3 10 (Zc 12 [Zt 8,Zt 9]),Zo 4 11 (.build [Zi 0,Zi 0,Zi 0,Zi 0,Zi 0,Zi 0,Zi 0] [(0,(1,Zn 2)),(4,(1,Zt 7)),(5,(2,Zt 10))]),Zs 5 (.store 7 (Zt 6) (Zt 11))] .ret)⟩
def af31:AFunc:=⟨9,[.cell 4 (some 7)],Zq [Zo 0 4 (.alloc [Zi 0,Zi 0,Zi 0,Zi 0,Zi 0,Zi 0,Zi 0])] (Zq [Zm 0 5 0,Zm 1 6 1,Zo 2 7 (Zc 12 [Zt 5,Zt 6]),Zo 3 8 (.build [Zi 0,Zi 0,Zi 0,Zi 0,Zi 0,Zi 0,Zi 0] [(0,(1,Zn 0)),(1,(2,Zt 7))]),Zs 4 (.store 7 (Zt 4) (Zt 8))] .ret)⟩
def af33:AFunc:=⟨5,[.cell 2 (some 7)],Zq [Zo 0 2 (.alloc [Zi 0,Zi 0,Zi 0,Zi 0,Zi 0,Zi 0,Zi 0])] (Zq [Zm 0 3 0,Zo 1 4 (.build [Zi 0,Zi 0,Zi 0,Zi 0,Zi 0,Zi 0,Zi 0] [(0,(1,Zn 1)),(3,(1,Zt 3))]),Zs 2 (.store 7 (Zt 2) (Zt 4))] .ret)⟩
def af34:AFunc:=⟨37,[.tmp 2,.cell 3 none],Zq [Zo 0 1 (.box (Zt 0)),Zo 1 2 (.mov (Zn 0)),Zo 2 3 (.alloc [Zi 0])] (Zq [Zo 0 9 (.mkfn (Fn.func 82) [] [Zt 3]),Zs 1 (.defer (Zt 9) [])] (Zq [Zo 0 10 (.load (some 2) (Zt 1)),Zo 1 11 (Zc 39 [Zt 10,.val (.fn (Fn.func 61) [] [])]),Zo 2 12 (Zc 43 [Zt 11]),Zm 3 4 12] (Zq [Zo 0 5 (.mov (Zn 0)),Zo 1 6 (.mov (Zn 0))] (.seq (Zq [Zo 0 13 (.fieldA 0 (Zt 1)),Zl 1 14 13,Zo 2 15 (.len (Zt 14)),Zo 3 16 (.mov (Zn 0))] (.block 0 (.loop [1,3,4,5,6,15,16] (Zq [Zo 0 17 (.bin .lss (Zt 16) (Zt 15))] (.seq (.cond (Zt 17) .skip (.exit 0)) (.seq (.block 1 (Zq [Zm 0 18 16,Zm 1 7 18] (Zq [Zm 0 19 4,Zm 1 20 7,Zo 2 21 (.fieldA 1 (Zt 1)),Zl 3 22 21,Zo 4 23 (.len (Zt 22)),Zo 5 24 (Zc 44 [Zt 19,Zt 20,Zt 23]),Zo 6 25 (.fieldV 0 none (Zt 24)),Zm 7 8 25] (Zq [Zm 0 26 7,Zo 1 27 (.bin .eql (Zt 26) (Zn 0)),Zm 2 28 27,⟨3,some 29,.mov (Zt 8),some (28,false),0⟩,⟨4,some 30,.mov (Zt 6),some (28,false),0⟩,⟨5,some 31,.bin .lss (Zt 29) (Zt 30),some (28,false),0⟩,Zo 6 32 (.pick (Zt 28) (.val (.bool true)) (Zt 31))] (.cond (Zt 32) (.ops [Zm 0 33 7,Zm 1 34 8,Zm 2 5 33,Zm 3 6 34]) .skip))))) (.ops [Zo 0 35 (.bin .add (Zt 16) (Zn 1)),Zm 1 16 35]))))))) (Zq [Zm 0 36 5,Zm 1 2 36,Zs 2 (.store 1 (Zt 3) (Zn 0))] .ret)))))⟩
def af36:AFunc:=⟨13,[.tmp 2],Zq [Zo 0 2 (.mov (Zn 0))] (Zq [Zo 0 3 (.mov (Zn 0))] (.seq (.block 0 (.loop [0,3] (.seq (Zq [Zm 0 4 0,Zo 1 5 (.bin .gtr (Zt 4) (Zn 0))] (.cond (Zt 5) .skip (.exit 0))) (.block 1 (.ops [Zm 0 6 3,Zm 1 7 0,Zo 2 8 (.bin .rem (Zt 7) (Zn 2)),Zo 3 9 (.bin .add (Zt 6) (Zt 8)),Zm 4 10 0,Zo 5 11 (.bin .quo (Zt 10) (Zn 2)),Zm 6 3 9,Zm 7 0 11]))))) (Zq [Zm 0 12 3,Zm 1 2 12] .ret)))⟩
def af37:AFunc:=⟨3,[],.cond (.val .nilp) .skip .skip⟩
def af39:AFunc:=⟨151,[.tmp 4],Zq [Zo 0 2 (.box (Zt 0)),Zo 1 4 (.mov (.val .nilp))] (Zq [Zo 0 5 (.mov (.val (.fn (Fn.func 83) [] [])))] (Zq [Zo 0 12 (.fieldA 0 (Zt 2)),Zl 1 13 12,Zo 2 14 (.len (Zt 13)),Zo 3 15 (Zc 84 [Zt 14,Zn 1,Zn 4]),Zm 4 16 15,⟨5,some 17,.fieldA 1 (Zt 2),some (16,true),0⟩,⟨6,some 18,.load none (Zt 17),some (16,true),0⟩,⟨7,some 19,.len (Zt 18),some (16,true),0⟩,⟨8,some 20,.bin .leq (Zt 19) (Zn 10),some (16,true),0⟩,Zo 9 21 (.pick (Zt 16) (Zt 20) (.val (.bool false))),Zo 10 22 (Zc 62 [Zt 21,Zn 1])] (.seq (Zq [Zo 0 23 (.fieldA 0 (Zt 2)),Zl 1 24 23,Zo 2 25 (.len (Zt 24)),Zo 3 26 (.mov (Zn 0))] (.block 0 (.loop [1,2,5,24,25,26] (Zq [Zo 0 27 (.bin .lss (Zt 26) (Zt 25))] (.seq (.cond (Zt 27) .skip (.exit 0)) (.seq (.block 1 (Zq [Zo 0 28 (.indexA 7 none (Zt 24) (Zt 26)),Zo 1 29 (.load (some 7) (Zt 28)),Zo 2 7 (.alloc [Zi 0,Zi 0,Zi 0,Zi 0,Zi 0,Zi 0,Zi 0]),Zs 3 (.store 7 (Zt 7) (Zt 29))] (.ops [Zo 0 30 (.fieldA 6 (Zt 7)),Zl 1 31 30,Zo 2 32 (Zc 84 [Zt 31,Zn 0,Zn 60]),Zm 3 33 32,⟨4,some 34,.mov (Zt 5),some (33,true),0⟩,⟨5,some 35,.fieldA 0 (Zt 7),some (33,true),0⟩,⟨6,some 36,.load (some 2) (Zt 35),some (33,true),0⟩,⟨7,some 37,.fieldA 6 (Zt 7),some (33,true),0⟩,⟨8,some 38,.load none (Zt 37),some (33,true),0⟩,⟨9,some 39,.call (Zt 34) [Zt 36,Zn 0,Zt 38,Zn 2],some (33,true),0⟩,Zo 10 40 (.pick (Zt 33) (Zt 39) (.val (.bool false))),Zm 11 41 40,⟨12,some 42,.mov (Zt 5),some (41,true),0⟩,⟨13,some 43,.fieldA 2 (Zt 7),some (41,true),0⟩,⟨14,some 44,.load (some 2) (Zt 43),some (41,true),0⟩,⟨15,some 45,.call (Zt 42) [Zt 44,Zn 1,Zn 10,Zn 2],some (41,true),0⟩,Zo 16 46 (.pick (Zt 41) (Zt 45) (.val (.bool false))),Zm 17 47 46,⟨18,some 48,.mov (Zt 5),some (47,true),0⟩,⟨19,some 49,.fieldA 4 (Zt 7),some (47,true),0⟩,⟨20,some 50,.load (some 2) (Zt 49),some (47,true),0⟩,⟨21,some 51,.call (Zt 48) [Zt 50,Zn 0,Zn 5,Zn 2],some (47,true),0⟩,Zo 22 52 (.pick (Zt 47) (Zt 51) (.val (.bool false))),Zo 23 53 (Zc 62 [Zt 52,Zn 1])]))) (.ops [Zo 0 54 (.bin .add (Zt 26) (Zn 1)),Zm 1 26 54]))))))) (Zq [Zo 0 55 (.load (some 2) (Zt 2)),Zo 1 56 .mkmap,Zo 2 57 (.build [.nils,.nils,.nils,.nilmap] [(0,(2,Zt 55)),(2,(1,.val .nils)),(3,(1,Zt 56))]),Zo 3 58 (.box (Zt 57)),Zm 4 8 58,Zo 5 9 (.mov (Zn 0))] (.seq (Zq [Zo 0 59 (.fieldA 1 (Zt 2)),Zl 1 60 59,Zo 2 61 (.len (Zt 60)),Zo 3 62 (.mov (Zn 0))] (.block 2 (.loop [1,5,8,9,60,61,62] (Zq [Zo 0 63 (.bin .lss (Zt 62) (Zt 61))] (.seq (.cond (Zt 63) .skip (.exit 2)) (.seq (.block 3 (Zq [Zo 0 64 (.indexA 7 none (Zt 60) (Zt 62)),Zo 1 65 (.load (some 7) (Zt 64)),Zo 2 11 (.alloc [Zi 0,Zi 0,Zi 0,Zi 0,Zi 0,Zi 0,Zi 0]),Zs 3 (.store 7 (Zt 11) (Zt 65))] (Zq [Zo 0 66 (.fieldA 0 (Zt 11)),Zl 1 67 66] (.block 4 (Zq [Zo 0 96 (.bin .eql (Zt 67) (Zn 0)),Zm 1 95 96] (.cond (Zt 95) (Zq [Zm 0 97 5,Zo 1 98 (.fieldA 1 (Zt 11)),Zo 2 99 (.load (some 2) (Zt 98)),Zo 3 100 (.call (Zt 97) [Zt 99,Zn 0,Zn 60,Zn 2]),Zo 4 101 (Zc 62 [Zt 100,Zn 1])] (Zq [Zm 0 102 9,Zo 1 103 (.fieldA 1 (Zt 11)),Zo 2 104 (.fieldA 1 (Zt 103)),Zl 3 105 104,Zo 4 106 (.fieldA 1 (Zt 11)),Zo 5 107 (.fieldA 0 (Zt 106)),Zl 6 108 107,Zo 7 109 (.bin .sub (Zt 105) (Zt 108)),Zo 8 110 (.min [Zn 1,Zt 109]),Zo 9 111 (.bin .add (Zt 102) (Zt 110)),Zm 10 9 111] (.ops [Zm 0 112 8,Zm 1 113 8,Zo 2 114 (.nilck (Zt 113)),Zo 3 115 (.fieldA 2 (Zt 114)),Zl 4 116 115,Zo 5 117 (.build [] []),Zo 6 118 (.iface 126 (Zt 117)),Zo 7 119 (.buildSl 1 1 [.nilif] [(0,Zt 118)]),Zo 8 120 (.append 1 (Zt 116) (Zt 119)),Zo 9 121 (.nilck (Zt 112)),Zo 10 122 (.fieldA 2 (Zt 121)),Zs 11 (.store 1 (Zt 122) (Zt 120))]))) (Zq [Zo 0 124 (.bin .eql (Zt 67) (Zn 1)),Zm 1 123 124] (.cond (Zt 123) (Zq [Zo 0 125 (.fieldA 3 (Zt 11)),Zl 1 126 125,Zo 2 127 (Zc 84 [Zt 126,Zn 1,Zn 10]),Zo 3 128 (Zc 62 [Zt 127,Zn 1])] (.draw [Zm 0 129 8,Zm 1 130 8,Zd 2 131 2 (.nilck (Zt 130)),Zd 3 132 6 (.fieldA 2 (Zt 131)),Zd 4 133 14 (.load none (Zt 132)),Zo 5 134 (.fieldA 3 (Zt 11)),Zd 6 135 32 (.load none (Zt 134)),Zd 7 136 96 (.build [Zi 0] [(0,(1,Zt 135))]),Zd 8 137 224 (.iface 129 (Zt 136)),Zd 9 138 480 (.buildSl 1 1 [.nilif] [(0,Zt 137)]),Zd 10 139 1022 (.append 1 (Zt 133) (Zt 138)),Zd 11 140 2047 (.nilck (Zt 129)),Zd 12 141 4095 (.fieldA 2 (Zt 140)),Ze 13 8191 (.store 1 (Zt 141) (Zt 139))])) (Zq [Zo 0 68 (.fieldA 0 (Zt 11)),Zl 1 69 68,Zo 2 70 (.bin .eql (Zt 69) (Zn 2)),Zm 3 71 70,⟨4,some 72,.mov (Zt 8),some (71,true),0⟩,⟨5,some 73,.fieldA 4 (Zt 11),some (71,true),0⟩,⟨6,some 74,.load none (Zt 73),some (71,true),0⟩,⟨7,some 75,Zc 41 [Zt 72,Zt 74],some (71,true),0⟩,Zo 8 76 (.pick (Zt 71) (Zt 75) (.val (.bool false))),Zm 9 77 76,⟨10,some 78,.mov (Zt 5),some (77,true),0⟩,⟨11,some 79,.fieldA 5 (Zt 11),some (77,true),0⟩,⟨12,some 80,.load (some 2) (Zt 79),some (77,true),0⟩,⟨13,some 81,.call (Zt 78) [Zt 80,Zn (-1000),Zn 1000,Zn 2000],some (77,true),0⟩,Zo 14 82 (.pick (Zt 77) (Zt 81) (.val (.bool false))),Zo 15 83 (Zc 62 [Zt 82,Zn 1])] (.ops [Zm 0 84 8,Zm 1 85 8,Zo 2 86 (.nilck (Zt 85)),Zo 3 87 (.fieldA 2 (Zt 86)),Zl 4 88 87,Zo 5 89 (.build [] []),Zo 6 90 (.iface 127 (Zt 89)),Zo 7 91 (.buildSl 1 1 [.nilif] [(0,Zt 90)]),Zo 8 92 (.append 1 (Zt 88) (Zt 91)),Zo 9 93 (.nilck (Zt 84)),Zo 10 94 (.fieldA 2 (Zt 93)),Zs 11 (.store 1 (Zt 94) (Zt 92))])))))))))) (.ops [Zo 0 142 (.bin .add (Zt 62) (Zn 1)),Zm 1 62 142]))))))) (Zq [Zm 0 143 9,Zo 1 144 (.bin .leq (Zt 143) (Zn 4)),Zo 2 145 (Zc 62 [Zt 144,Zn 1])] (Zq [Zm 0 146 1,Zm 1 147 8,Zo 2 148 (.call (Zt 146) [Zt 147]),Zo 3 149 (Zc 62 [Zt 148,Zn 2])] (Zq [Zm 0 150 8,Zm 1 4 150] .ret))))))))⟩
def af40:AFunc:=⟨13,[.tmp 4],Zq [Zo 0 4 (.mov (.val (.bool false)))] (Zq [Zm 0 5 0,Zl 1 6 1,Zo 2 7 (Zc 41 [Zt 5,Zt 6]),Zm 3 8 7,⟨4,some 9,.mov (Zt 0),some (8,true),0⟩,⟨5,some 10,.load none (Zt 2),some (8,true),0⟩,⟨6,some 11,Zc 42 [Zt 9,Zt 10],some (8,true),0⟩,Zo 7 12 (.pick (Zt 8) (Zt 11) (.val (.bool false))),Zm 8 4 12] .ret)⟩
def af41:AFunc:=⟨14,[.tmp 4],Zq [Zo 0 4 (.mov (.val (.bool false)))] (Zq [Zm 0 5 1,Zm 1 6 0,Zo 2 7 (.nilck (Zt 6)),Zo 3 8 (.fieldA 0 (Zt 7)),Zo 4 9 (.fieldA 0 (Zt 8)),Zl 5 10 9,Zo 6 11 (.len (Zt 10)),Zo 7 12 (.bin .sub (Zt 11) (Zn 1)),Zo 8 13 (Zc 84 [Zt 5,Zn 0,Zt 12]),Zm 9 4 13] .ret)⟩
def af42:AFunc:=⟨14,[.tmp 4],Zq [Zo 0 4 (.mov (.val (.bool false)))] (Zq [Zm 0 5 1,Zm 1 6 0,Zo 2 7 (.nilck (Zt 6)),Zo 3 8 (.fieldA 0 (Zt 7)),Zo 4 9 (.fieldA 1 (Zt 8)),Zl 5 10 9,Zo 6 11 (.len (Zt 10)),Zo 7 12 (.bin .sub (Zt 11) (Zn 1)),Zo 8 13 (Zc 84 [Zt 5,Zn 0,Zt 12]),Zm 9 4 13] .ret)⟩
def af43:AFunc:=⟨9,[.tmp 2],Zq [Zo 0 2 (.mov (.val .nilp))] (Zq [Zm 0 3 0,Zm 1 4 0,Zo 2 5 (Zc 64 [Zt 4]),Zo 3 6 (Zc 63 [Zt 3,Zt 5]),Zo 4 7 (Zc 62 [Zt 6,Zn 10])] (Zq [Zm 0 8 0,Zm 1 2 8] .ret))⟩
def af44:AFunc:=⟨11,[.cell 6 (some 2)],Zq [Zo 0 3 (.box (Zt 0)),Zo 1 5 (.box (Zt 2)),Zo 2 6 (.alloc [Zi 0,Zi 0])] (Zq [Zl 0 7 3,Zm 1 8 1,Zo 2 9 (.mkfn (Fn.func 85) [] [Zt 3,Zt 5]),Zo 3 10 (Zc 49 [Zt 7,Zt 8,Zt 9]),Zs 4 (.store 2 (Zt 6) (Zt 10))] .ret)⟩
def af45:AFunc:=⟨3,[],.cond (.val .nilp) .skip .skip⟩
def af46:AFunc:=⟨13,[.tmp 4],Zq [Zo 0 2 (.box (Zt 0)),Zo 1 4 (.mov (Zn 0))] (Zq [Zm 0 5 1,Zo 1 6 (.fieldA 0 (Zt 2)),Zl 2 7 6,Zo 3 8 (.bin .add (Zt 5) (Zt 7)),Zo 4 9 (.bin .sub (Zt 8) (Zn 1)),Zo 5 10 (.fieldA 0 (Zt 2)),Zl 6 11 10,Zo 7 12 (.bin .quo (Zt 9) (Zt 11)),Zm 8 4 12] .ret)⟩
def af47:AFunc:=⟨12,[.tmp 4],Zq [Zo 0 4 (.mov (.val (.bool false)))] (Zq [Zm 0 5 0,Zl 1 6 1,Zo 2 7 (Zc 41 [Zt 5,Zt 6]),Zm 3 8 7,⟨4,some 9,.load none (Zt 2),some (8,true),0⟩,⟨5,some 10,Zc 48 [Zt 9],some (8,true),0⟩,Zo 6 11 (.pick (Zt 8) (Zt 10) (.val (.bool false))),Zm 7 4 11] .ret)⟩
def af48:AFunc:=⟨5,[.tmp 2],Zq [Zo 0 2 (.mov (.val (.bool false)))] (Zq [Zm 0 3 0,Zo 1 4 (Zc 84 [Zt 3,Zn 0,Zn 60]),Zm 2 2 4] .ret)⟩
def af49:AFunc:=⟨37,[.cell 6 (some 2)],Zq [Zo 0 3 (.box (Zt 0)),Zo 1 4 (.box (Zt 1)),Zo 2 5 (.box (Zt 2)),Zo 3 6 (.alloc [Zi 0,Zi 0])] (Zq [Zo 0 7 (.alloc [.nils])] (.seq (.seq (.draw [Zl 0 11 3,Zl 1 12 3,Zd 2 13 2 (Zc 64 [Zt 12]),Zd 3 14 7 (Zc 79 [Zt 11,Zt 13])]) (.block 0 (.rangeF (Zt 14) [15] (.ops [Zo 0 8 (.alloc [Zi 0,Zi 0,Zi 0,Zi 0,Zi 0,Zi 0,Zi 0,Zi 0,Zi 0,Zi 0]),Zs 1 (.store 10 (Zt 8) (Zt 15))]) (.block 1 (.seq (.draw [Zl 0 16 3,Zl 1 17 4,Zo 2 18 (.load (some 10) (Zt 8)),Zl 3 19 3,Zo 7 23 (.mov (Zn 0)),Zd 4 20 8 (Zc 64 [Zt 19]),Zd 5 21 31 (Zc 80 [Zt 16,Zt 17,Zt 18,Zt 20]),Zd 6 22 63 (.len (Zt 21))]) (.block 2 (.loop [5,7,8,21,22,23] (Zq [Zo 0 24 (.bin .lss (Zt 23) (Zt 22))] (.seq (.cond (Zt 24) .skip (.exit 2)) (.seq (.block 3 (Zq [Zo 0 25 (.indexA 5 none (Zt 21) (Zt 23)),Zo 1 26 (.load (some 5) (Zt 25)),Zo 2 10 (.alloc [Zi 0,Zi 0,Zi 0,Zi 0,Zi 0]),Zs 3 (.store 5 (Zt 10) (Zt 26))] (.draw [Zl 0 27 7,Zl 1 28 5,Zo 2 29 (.load (some 5) (Zt 10)),Zo 3 30 (.load (some 10) (Zt 8)),Zd 4 31 14 (.call (Zt 28) [Zt 29,Zt 30]),Zd 5 32 30 (.buildSl 2 1 [Zi 0,Zi 0] [(0,Zt 31)]),Zd 6 33 63 (.append 2 (Zt 27) (Zt 32)),Ze 7 127 (.store 1 (Zt 7) (Zt 33))]))) (.ops [Zo 0 34 (.bin .add (Zt 23) (Zn 1)),Zm 1 23 34]))))))))))) (Zq [Zl 0 35 7,Zo 1 36 (Zc 86 [Zt 35]),Zs 2 (.store 2 (Zt 6) (Zt 36))] .ret)))⟩
def af50:AFunc:=⟨16,[.cell 6 (some 2)],Zq [Zo 0 4 (.box (Zt 0)),Zo 1 5 (.box (Zt 1)),Zo 2 6 (.alloc [Zi 0,Zi 0])] (Zq [Zl 0 8 2,Zo 1 9 (.fieldA 0 (Zt 4)),Zo 2 10 (.load (some 3) (Zt 9)),Zl 3 11 3,Zo 4 12 (.call (Zt 8) [Zt 10,Zt 11]),Zm 5 7 12] (Zq [Zm 0 13 7,Zm 1 14 7,Zo 2 15 (.build [Zi 0,Zi 0] [(0,(1,Zt 13)),(1,(1,Zt 14))]),Zs 3 (.store 2 (Zt 6) (Zt 15))] .ret))⟩
def af51:AFunc:=⟨3,[],.cond (.val .nilp) .skip .skip⟩
def af52:AFunc:=⟨6,[.tmp 3],Zq [Zo 0 3 (.mov (.val (.bool false)))] (Zq [Zl 0 4 1,Zo 1 5 (Zc 48 [Zt 4]),Zm 2 3 5] .ret)⟩
def af53:AFunc:=⟨32,[.cell 6 none],Zq [Zo 0 3 (.box (Zt 0)),Zo 1 4 (.box (Zt 1)),Zo 2 5 (.box (Zt 2)),Zo 3 6 (.alloc [.bool false])] (.seq (.seq (.draw [Zl 0 9 3,Zl 1 10 3,Zd 2 11 2 (Zc 64 [Zt 10]),Zd 3 12 7 (Zc 79 [Zt 9,Zt 11])]) (.block 0 (.rangeF (Zt 12) [13] (.ops [Zo 0 7 (.alloc [Zi 0,Zi 0,Zi 0,Zi 0,Zi 0,Zi 0,Zi 0,Zi 0,Zi 0,Zi 0]),Zs 1 (.store 10 (Zt 7) (Zt 13))]) (.block 1 (Zq [Zl 0 14 3,Zo 1 15 (.nilck (Zt 14)),Zo 2 16 (.fieldA 0 (Zt 15)),Zo 3 17 (.fieldA 0 (Zt 16)),Zl 4 18 17,Zo 5 19 (.len (Zt 18)),Zo 6 20 (.mov (Zn 0))] (.block 2 (.loop [3,4,5,6,7,19,20] (Zq [Zo 0 21 (.bin .lss (Zt 20) (Zt 19))] (.seq (.cond (Zt 21) .skip (.exit 2)) (.seq (.block 3 (Zq [Zm 0 22 20,Zm 1 8 22] (.seq (.draw [Zl 0 23 3,Zm 1 24 8,Zo 2 25 (.load (some 10) (Zt 7)),Zl 3 26 3,Zo 6 29 (.mkfn (Fn.func 88) [] [Zt 3,Zt 7,Zt 4,Zt 5]),Zd 4 27 8 (Zc 64 [Zt 26]),Zd 5 28 31 (Zc 80 [Zt 23,Zt 24,Zt 25,Zt 27]),Zd 7 30 127 (Zc 87 [Zt 28,Zt 29])]) (.cond (Zt 30) (Zq [Zs 0 (.store 1 (Zt 6) (.val (.bool false)))] .ret) .skip)))) (.ops [Zo 0 31 (.bin .add (Zt 20) (Zn 1)),Zm 1 20 31]))))))))))) (Zq [Zs 0 (.store 1 (Zt 6) (.val (.bool true)))] .ret))⟩
def af54:AFunc:=⟨31,[.cell 4 none],Zq [Zo 0 2 (.box (Zt 0)),Zo 1 3 (.box (Zt 1)),Zo 2 4 (.alloc [.bool false])] (.seq .skip (.seq (.seq (.draw [Zl 0 7 2,Zl 1 8 2,Zd 2 9 2 (Zc 64 [Zt 8]),Zd 3 10 7 (Zc 79 [Zt 7,Zt 9])]) (.block 0 (.rangeF (Zt 10) [11] (.ops [Zo 0 5 (.alloc [Zi 0,Zi 0,Zi 0,Zi 0,Zi 0,Zi 0,Zi 0,Zi 0,Zi 0,Zi 0]),Zs 1 (.store 10 (Zt 5) (Zt 11))]) (.block 1 (.seq (Zq [Zl 0 12 2,Zo 1 13 (.nilck (Zt 12)),Zo 2 14 (.fieldA 0 (Zt 13)),Zo 3 15 (.fieldA 0 (Zt 14)),Zl 4 16 15,Zo 5 17 (.len (Zt 16)),Zo 6 18 (.mov (Zn 0))] (.block 2 (.loop [2,3,4,5,17,18] (Zq [Zo 0 19 (.bin .lss (Zt 18) (Zt 17))] (.seq (.cond (Zt 19) .skip (.exit 2)) (.seq (.block 3 (Zq [Zm 0 20 18,Zm 1 6 20] (.seq (.draw [Zl 0 21 2,Zm 1 22 6,Zo 2 23 (.load (some 10) (Zt 5)),Zl 3 24 2,Zo 6 27 (.mkfn (Fn.func 90) [] [Zt 2,Zt 5,Zt 3]),Zd 4 25 8 (Zc 64 [Zt 24]),Zd 5 26 31 (Zc 80 [Zt 21,Zt 22,Zt 23,Zt 25]),Zd 7 28 127 (Zc 87 [Zt 26,Zt 27]),Zd 8 29 255 (.not (Zt 28))]) (.cond (Zt 29) (.exit 1) .skip)))) (.ops [Zo 0 30 (.bin .add (Zt 18) (Zn 1)),Zm 1 18 30]))))))) (Zq [Zs 0 (.store 1 (Zt 4) (.val (.bool true)))] .ret)))))) (Zq [Zs 0 (.store 1 (Zt 4) (.val (.bool false)))] .ret)))⟩
def af55:AFunc:=⟨3,[],.cond (.val .nilp) .skip .skip⟩
def af56:AFunc:=⟨6,[.tmp 3],Zq [Zo 0 3 (.mov (.val (.bool false)))] (Zq [Zl 0 4 1,Zo 1 5 (Zc 48 [Zt 4]),Zm 2 3 5] .ret)⟩
def af57:AFunc:=⟨15,[.cell 4 none],Zq [Zo 0 3 (.box (Zt 1)),Zo 1 4 (.alloc [Zi 0])] (.seq (Zq [Zm 0 6 0] (.block 0 (.rangeF (Zt 6) [7] (.ops [Zm 0 5 7]) (.block 1 (Zq [Zo 0 8 (.fieldA 0 (Zt 3)),Zl 1 9 8,Zm 2 10 5,Zo 3 11 (.call (Zt 9) [Zt 10])] (.cond (Zt 11) (Zq [Zm 0 12 5,Zs 1 (.store 1 (Zt 4) (Zt 12))] .ret) .skip)))))) (Zq [Zo 0 13 (Zc 62 [.val (.bool false),Zn 4])] (Zq [Zl 0 14 4,Zs 1 (.store 1 (Zt 4) (Zt 14))] .ret)))⟩
def af58:AFunc:=⟨6,[.tmp 4],Zq [Zo 0 2 (.box (Zt 0)),Zo 1 3 (.box (Zt 1)),Zo 2 4 (.mov (.val .nilfn))] (Zq [Zo 0 5 (.mkfn (Fn.func 91) [] [Zt 3,Zt 2]),Zm 1 4 5] .ret)⟩
def af59:AFunc:=⟨9,[.tmp 4],Zq [Zo 0 4 (.mov (.val (.bool false)))] (Zq [Zl 0 5 1,Zm 1 6 0,Zl 2 7 2,Zo 3 8 (Zc 53 [Zt 5,Zt 6,Zt 7]),Zm 4 4 8] .ret)⟩
def af60:AFunc:=⟨3,[],.cond (.val .nilp) .skip .skip⟩
def af61:AFunc:=⟨3,[.tmp 2],Zq [Zo 0 2 (.mov (.val (.bool false)))] (Zq [Zo 0 2 (.mov (.val (.bool true)))] .ret)⟩
def af62:AFunc:=⟨9,[],Zq [Zm 0 4 0,Zo 1 5 (.not (Zt 4))] (.cond (Zt 5) (.ops [Zm 0 6 1,Zo 1 7 (.build [Zi 0] [(0,(1,Zt 6))]),Zo 2 8 (.iface 119 (Zt 7)),Zs 3 (.panic (Zt 8))]) .skip)⟩
def af63:AFunc:=⟨9,[.cell 4 none],Zq [Zo 0 4 (.alloc [.bool false])] (.seq (Zq [Zm 0 5 0,Zm 1 6 1,Zo 2 7 (Zc 79 [Zt 5,Zt 6])] (.block 0 (.rangeF (Zt 7) [8] .skip (.block 1 (Zq [Zs 0 (.store 1 (Zt 4) (.val (.bool true)))] .ret))))) (Zq [Zs 0 (.store 1 (Zt 4) (.val (.bool false)))] .ret))⟩
def af64:AFunc:=⟨11,[.tmp 2],Zq [Zo 0 2 (.mov (.val (.int .u64 0)))] (Zq [Zm 0 3 0,Zo 1 4 (.nilck (Zt 3)),Zo 2 5 (.fieldA 0 (Zt 4)),Zo 3 6 (.fieldA 1 (Zt 5)),Zl 4 7 6,Zo 5 8 (.len (Zt 7)),Zo 6 9 (.bin .shl (.val (.int .u64 1)) (Zt 8)),Zo 7 10 (.bin .sub (Zt 9) (.val (.int .u64 1))),Zm 8 2 10] .ret)⟩
def af65:AFunc:=⟨29,[.tmp 4],Zq [Zo 0 4 (.mov (.val (.bool false)))] (.seq (Zq [Zm 0 7 0,Zo 1 8 (.nilck (Zt 7)),Zo 2 9 (.fieldA 0 (Zt 8)),Zo 3 10 (.fieldA 1 (Zt 9)),Zl 4 11 10,Zo 5 12 (.len (Zt 11)),Zo 6 13 (.mov (Zn 0))] (.block 0 (.loop [1,11,12,13] (Zq [Zo 0 14 (.bin .lss (Zt 13) (Zt 12))] (.seq (.cond (Zt 14) .skip (.exit 0)) (.seq (.block 1 (Zq [Zm 0 15 13,Zo 1 16 (.indexA 7 none (Zt 11) (Zt 13)),Zo 2 17 (.load (some 7) (Zt 16)),Zo 3 6 (.alloc [Zi 0,Zi 0,Zi 0,Zi 0,Zi 0,Zi 0,Zi 0]),Zm 4 5 15,Zs 5 (.store 7 (Zt 6) (Zt 17))] (Zq [Zm 0 18 1,Zm 1 19 5,Zo 2 20 (.bin .shr (Zt 18) (Zt 19)),Zo 3 21 (.bin .and (Zt 20) (.val (.int .u64 1))),Zo 4 22 (.bin .eql (Zt 21) (.val (.int .u64 1))),Zm 5 23 22,⟨6,some 24,.fieldA 0 (Zt 6),some (23,true),0⟩,⟨7,some 25,.load none (Zt 24),some (23,true),0⟩,⟨8,some 26,.bin .neq (Zt 25) (Zn 2),some (23,true),0⟩,Zo 9 27 (.pick (Zt 23) (Zt 26) (.val (.bool false)))] (.cond (Zt 27) (Zq [Zo 0 4 (.mov (.val (.bool false)))] .ret) .skip)))) (.ops [Zo 0 28 (.bin .add (Zt 13) (Zn 1)),Zm 1 13 28]))))))) (Zq [Zo 0 4 (.mov (.val (.bool true)))] .ret))⟩
def af66:AFunc:=⟨9,[],.ops [Zm 0 4 0,Zm 1 5 0,Zo 2 6 (.len (Zt 5)),Zm 3 7 1,Zo 4 8 (Zc 92 [Zt 4,Zt 6,Zt 7])]⟩
def af67:AFunc:=⟨10,[.tmp 4],Zq [Zo 0 4 (.mov (Zn 0))] (Zq [Zm 0 5 0,Zo 1 6 (Zc 68 [Zt 5]),Zm 2 7 1,Zo 3 8 (Zc 68 [Zt 7]),Zo 4 9 (.bin .sub (Zt 6) (Zt 8)),Zm 5 4 9] .ret)⟩
def af68:AFunc:=⟨8,[.tmp 2],Zq [Zo 0 2 (.mov (Zn 0))] (.seq (.cond (.val (.bool false)) (Zq [Zm 0 3 0,Zo 1 4 (.conv .u32 (Zt 3)),Zo 2 5 (Zc 93 [Zt 4]),Zm 3 2 5] .ret) .skip) (Zq [Zm 0 6 0,Zo 1 7 (Zc 94 [Zt 6]),Zm 2 2 7] .ret))⟩
def af69:AFunc:=⟨15,[.cell 4 none],Zq [Zo 0 3 (.box (Zt 1)),Zo 1 4 (.alloc [.int .u64 0])] (.seq (Zq [Zm 0 6 0] (.block 0 (.rangeF (Zt 6) [7] (.ops [Zm 0 5 7]) (.block 1 (Zq [Zo 0 8 (.fieldA 0 (Zt 3)),Zl 1 9 8,Zm 2 10 5,Zo 3 11 (.call (Zt 9) [Zt 10])] (.cond (Zt 11) (Zq [Zm 0 12 5,Zs 1 (.store 1 (Zt 4) (Zt 12))] .ret) .skip)))))) (Zq [Zo 0 13 (Zc 62 [.val (.bool false),Zn 4])] (Zq [Zl 0 14 4,Zs 1 (.store 1 (Zt 4) (Zt 14))] .ret)))⟩
def af70:AFunc:=⟨4,[.tmp 2],Zq [Zo 0 1 (.box (Zt 0)),Zo 1 2 (.mov (.val .nilfn))] (Zq [Zo 0 3 (.mkfn (Fn.func 95) [] [Zt 1]),Zm 1 2 3] .ret)⟩
def af71:AFunc:=⟨8,[.tmp 3],Zq [Zo 0 3 (.mov (.val (.bool false)))] (Zq [Zl 0 4 1,Zm 1 5 0,Zo 2 6 (Zc 63 [Zt 4,Zt 5]),Zo 3 7 (.not (Zt 6)),Zm 4 3 7] .ret)⟩
def af72:AFunc:=⟨3,[],.cond (.val .nilp) .skip .skip⟩
def af73:AFunc:=⟨7,[.tmp 3],Zq [Zo 0 3 (.mov (.val (.bool false)))] (Zq [Zl 0 4 1,Zm 1 5 0,Zo 2 6 (Zc 53 [Zt 4,Zn 0,Zt 5]),Zm 3 3 6] .ret)⟩
def af74:AFunc:=⟨15,[.tmp 6],Zq [Zo 0 6 (.mov (.val (.bool false)))] (Zq [Zm 0 7 1,Zm 1 8 0,Zo 2 9 (.bin .leq (Zt 7) (Zt 8)),Zm 3 10 9,⟨4,some 11,.mov (Zt 0),some (10,true),0⟩,⟨5,some 12,.mov (Zt 2),some (10,true),0⟩,⟨6,some 13,.bin .leq (Zt 11) (Zt 12),some (10,true),0⟩,Zo 7 14 (.pick (Zt 10) (Zt 13) (.val (.bool false))),Zm 8 6 14] .ret)⟩
def af75:AFunc:=⟨35,[.tmp 8],Zq [Zo 0 4 (.box (Zt 0)),Zo 1 8 (.mov (.val (.bool false)))] (Zq [Zm 0 9 1,Zo 1 10 (.fieldA 0 (Zt 4)),Zl 2 11 10,Zo 3 12 (.bin .leq (Zt 9) (Zt 11)),Zm 4 13 12,⟨5,some 14,.fieldA 0 (Zt 4),some (13,true),0⟩,⟨6,some 15,.load none (Zt 14),some (13,true),0⟩,⟨7,some 16,.fieldA 1 (Zt 4),some (13,true),0⟩,⟨8,some 17,.load none (Zt 16),some (13,true),0⟩,⟨9,some 18,.bin .leq (Zt 15) (Zt 17),some (13,true),0⟩,Zo 10 19 (.pick (Zt 13) (Zt 18) (.val (.bool false))),Zm 11 20 19,⟨12,some 21,.fieldA 1 (Zt 4),some (20,true),0⟩,⟨13,some 22,.load none (Zt 21),some (20,true),0⟩,⟨14,some 23,.mov (Zt 2),some (20,true),0⟩,⟨15,some 24,.bin .leq (Zt 22) (Zt 23),some (20,true),0⟩,Zo 16 25 (.pick (Zt 20) (Zt 24) (.val (.bool false))),Zm 17 26 25,⟨18,some 27,.fieldA 1 (Zt 4),some (26,true),0⟩,⟨19,some 28,.load none (Zt 27),some (26,true),0⟩,⟨20,some 29,.fieldA 0 (Zt 4),some (26,true),0⟩,⟨21,some 30,.load none (Zt 29),some (26,true),0⟩,⟨22,some 31,.bin .sub (Zt 28) (Zt 30),some (26,true),0⟩,⟨23,some 32,.mov (Zt 3),some (26,true),0⟩,⟨24,some 33,.bin .leq (Zt 31) (Zt 32),some (26,true),0⟩,Zo 25 34 (.pick (Zt 26) (Zt 33) (.val (.bool false))),Zm 26 8 34] .ret)⟩
def af76:AFunc:=⟨28,[.tmp 4],Zq [Zo 0 2 (.box (Zt 0)),Zo 1 3 (.box (Zt 1)),Zo 2 4 (.mov (.val (.bool false)))] (.seq (Zq [Zo 0 5 (.fieldA 0 (Zt 3)),Zl 1 6 5] (.block 0 (Zq [Zo 0 8 (.bin .eql (Zt 6) (Zn 0)),Zm 1 7 8] (.cond (Zt 7) (Zq [Zo 0 9 (.fieldA 1 (Zt 3)),Zo 1 10 (.load (some 2) (Zt 9)),Zo 2 11 (Zc 75 [Zt 10,Zn 0,Zn 60,Zn 2]),Zm 3 4 11] .ret) (Zq [Zo 0 13 (.bin .eql (Zt 6) (Zn 1)),Zm 1 12 13] (.cond (Zt 12) (Zq [Zo 0 14 (.fieldA 3 (Zt 3)),Zl 1 15 14,Zo 2 16 (Zc 74 [Zt 15,Zn 1,Zn 10]),Zm 3 4 16] .ret) (Zq [Zo 0 18 (.bin .eql (Zt 6) (Zn 2)),Zm 1 17 18] (.cond (Zt 17) (Zq [Zo 0 19 (.load (some 2) (Zt 2)),Zo 1 20 (.fieldA 4 (Zt 3)),Zl 2 21 20,Zo 3 22 (Zc 96 [Zt 19,Zt 21]),Zm 4 23 22,⟨5,some 24,.fieldA 5 (Zt 3),some (23,true),0⟩,⟨6,some 25,.load (some 2) (Zt 24),some (23,true),0⟩,⟨7,some 26,Zc 75 [Zt 25,Zn (-1000),Zn 1000,Zn 2000],some (23,true),0⟩,Zo 8 27 (.pick (Zt 23) (Zt 26) (.val (.bool false))),Zm 9 4 27] .ret) .skip)))))))) (Zq [Zo 0 4 (.mov (.val (.bool false)))] .ret))⟩
def af78:AFunc:=⟨3,[],.cond (.val .nilp) .skip .skip⟩
def af79:AFunc:=⟨6,[.tmp 4],Zq [Zo 0 2 (.box (Zt 0)),Zo 1 3 (.box (Zt 1)),Zo 2 4 (.mov (.val .nilfn))] (Zq [Zo 0 5 (.mkfn (Fn.func 97) [] [Zt 2,Zt 3]),Zm 1 4 5] .ret)⟩
def af80:AFunc:=⟨34,[.cell 8 none],Zq [Zo 0 4 (.box (Zt 0)),Zo 1 5 (.box (Zt 1)),Zo 2 6 (.box (Zt 2)),Zo 3 7 (.box (Zt 3)),Zo 4 8 (.alloc [.nils])] (.seq (Zq [Zl 0 11 4,Zl 1 12 5,Zo 2 13 (Zc 99 [Zt 11,Zt 12])] (.block 0 (.rangeF (Zt 13) [14] (.ops [Zo 0 9 (.alloc [Zi 0,Zi 0,Zi 0]),Zs 1 (.store 3 (Zt 9) (Zt 14))]) (.block 1 (Zq [Zl 0 15 4,Zo 1 16 (.load (some 10) (Zt 6)),Zl 2 17 5,Zo 3 18 (.load (some 3) (Zt 9)),Zl 4 19 7,Zo 5 20 (.build [Zi 0,Zi 0,Zi 0,Zi 0,Zi 0,Zi 0,Zi 0,Zi 0,Zi 0,Zi 0,Zi 0,Zi 0,Zi 0,Zi 0,.int .u64 0] [(0,(10,Zt 16)),(10,(1,Zt 17)),(11,(3,Zt 18)),(14,(1,Zt 19))]),Zo 6 21 (Zc 100 [Zt 15,Zt 20]),Zo 7 10 (.alloc [Zi 0,Zi 0]),Zs 8 (.store 2 (Zt 10) (Zt 21))] (Zq [Zo 0 22 (.fieldA 0 (Zt 10)),Zl 1 23 22,Zo 2 24 (.fieldA 1 (Zt 10)),Zl 3 25 24,Zo 4 26 (.bin .leq (Zt 23) (Zt 25))] (.cond (Zt 26) (.ops [Zl 0 27 8,Zo 1 28 (.load (some 3) (Zt 9)),Zo 2 29 (.load (some 2) (Zt 10)),Zo 3 30 (.build [Zi 0,Zi 0,Zi 0,Zi 0,Zi 0] [(0,(3,Zt 28)),(3,(2,Zt 29))]),Zo 4 31 (.buildSl 5 1 [Zi 0,Zi 0,Zi 0,Zi 0,Zi 0] [(0,Zt 30)]),Zo 5 32 (.append 5 (Zt 27) (Zt 31)),Zs 6 (.store 1 (Zt 8) (Zt 32))]) .skip))))))) (Zq [Zl 0 33 8,Zs 1 (.store 1 (Zt 8) (Zt 33))] .ret))⟩
def af81 : AFunc := ⟨37,[.tmp 10],Zq [Zo 0 6 (.box (Zt 1)),Zo 1 8 (.box (Zt 3)),Zo 2 10 (.mov (Zn 0))] (.seq (Zq [Zm 0 13 0,Zo 1 14 (.nilck (Zt 13)),Zo 2 15 (.fieldA 2 (Zt 14)),Zl 3 16 15,Zm 4 17 4,Zo 5 18 (.slice 1 (Zt 16) none (some (Zt 17))),Zo 6 19 (.len (Zt 18)),Zo 7 20 (.mov (Zn 0))] (.block 0 (.loop [2,6,8,18,19,20] (Zq [Zo 0 21 (.bin .lss (Zt 20) (Zt 19))] (.seq (.cond (Zt 21) .skip (.exit 0)) (.seq (.block 1 (Zq [Zm 0 22 20,Zo 1 23 (.indexA 1 none (Zt 18) (Zt 20)),Zl 2 24 23,Zm 3 11 22,Zm 4 12 24] (.draw [Zm 0 25 12,Zo 1 26 (.load (some 3) (Zt 6)),Zm 2 27 2,Zm 3 28 11,Zd 4 29 8 (.indexA 1 (some 10) (Zt 8) (Zt 28)),Zd 5 30 24 (.load none (Zt 29)),Zd 6 31 1 (.mkfn (Fn.method "bogworks/road.after") [Zt 25] []),Zd 7 32 65 (.nilckM "bogworks/road.after" [129,127,126] (Zt 31)),Zd 8 33 193 (.mov (Zt 25)),Zd 9 34 511 (.invoke (Zt 33) [(129,127),(127,126),(126,125)] [Zt 26,Zt 27,Zt 30]),Zd 10 2 1023 (.mov (Zt 34))]))) (.ops [Zo 0 35 (.bin .add (Zt 20) (Zn 1)),Zm 1 20 35]))))))) (Zq [Zm 0 36 2,Zm 1 10 36] .ret))⟩
def af82:AFunc:=⟨3,[],.cond (.val .nilp) .skip .skip⟩
def af83:AFunc:=⟨35,[.tmp 8],Zq [Zo 0 4 (.box (Zt 0)),Zo 1 8 (.mov (.val (.bool false)))] (Zq [Zm 0 9 1,Zo 1 10 (.fieldA 0 (Zt 4)),Zl 2 11 10,Zo 3 12 (.bin .leq (Zt 9) (Zt 11)),Zm 4 13 12,⟨5,some 14,.fieldA 0 (Zt 4),some (13,true),0⟩,⟨6,some 15,.load none (Zt 14),some (13,true),0⟩,⟨7,some 16,.fieldA 1 (Zt 4),some (13,true),0⟩,⟨8,some 17,.load none (Zt 16),some (13,true),0⟩,⟨9,some 18,.bin .leq (Zt 15) (Zt 17),some (13,true),0⟩,Zo 10 19 (.pick (Zt 13) (Zt 18) (.val (.bool false))),Zm 11 20 19,⟨12,some 21,.fieldA 1 (Zt 4),some (20,true),0⟩,⟨13,some 22,.load none (Zt 21),some (20,true),0⟩,⟨14,some 23,.mov (Zt 2),some (20,true),0⟩,⟨15,some 24,.bin .leq (Zt 22) (Zt 23),some (20,true),0⟩,Zo 16 25 (.pick (Zt 20) (Zt 24) (.val (.bool false))),Zm 17 26 25,⟨18,some 27,.fieldA 1 (Zt 4),some (26,true),0⟩,⟨19,some 28,.load none (Zt 27),some (26,true),0⟩,⟨20,some 29,.fieldA 0 (Zt 4),some (26,true),0⟩,⟨21,some 30,.load none (Zt 29),some (26,true),0⟩,⟨22,some 31,.bin .sub (Zt 28) (Zt 30),some (26,true),0⟩,⟨23,some 32,.mov (Zt 3),some (26,true),0⟩,⟨24,some 33,.bin .leq (Zt 31) (Zt 32),some (26,true),0⟩,Zo 25 34 (.pick (Zt 26) (Zt 33) (.val (.bool false))),Zm 26 8 34] .ret)⟩
def af84:AFunc:=⟨15,[.tmp 6],Zq [Zo 0 6 (.mov (.val (.bool false)))] (Zq [Zm 0 7 1,Zm 1 8 0,Zo 2 9 (.bin .leq (Zt 7) (Zt 8)),Zm 3 10 9,⟨4,some 11,.mov (Zt 0),some (10,true),0⟩,⟨5,some 12,.mov (Zt 2),some (10,true),0⟩,⟨6,some 13,.bin .leq (Zt 11) (Zt 12),some (10,true),0⟩,Zo 7 14 (.pick (Zt 10) (Zt 13) (.val (.bool false))),Zm 8 6 14] .ret)⟩
def af85:AFunc:=⟨26,[.cell 6 (some 2)],Zq [Zo 0 4 (.box (Zt 0)),Zo 1 5 (.box (Zt 1)),Zo 2 6 (.alloc [Zi 0,Zi 0])] (.seq (.draw [Zl 0 7 2,Zo 1 8 (.fieldA 0 (Zt 4)),Zd 2 9 2 (.load (some 3) (Zt 8)),Zo 3 10 (.fieldA 3 (Zt 4)),Zd 4 11 8 (.fieldA 0 (Zt 10)),Zd 5 12 24 (.load none (Zt 11)),Zo 6 13 (.load (some 10) (Zt 5)),Zl 7 14 3,Zl 9 16 2,Zo 10 17 (.fieldA 0 (Zt 4)),Zd 11 18 1024 (.load (some 3) (Zt 17)),Zo 12 19 (.fieldA 3 (Zt 4)),Zd 13 20 4096 (.fieldA 1 (Zt 19)),Zd 14 21 12288 (.load none (Zt 20)),Zo 15 22 (.load (some 10) (Zt 5)),Zl 16 23 3,Zd 8 15 255 (Zc 81 [Zt 7,Zt 9,Zt 12,Zt 13,Zt 14]),Zd 17 24 131071 (Zc 81 [Zt 16,Zt 18,Zt 21,Zt 22,Zt 23]),Zd 18 25 262143 (.build [Zi 0,Zi 0] [(0,(1,Zt 15)),(1,(1,Zt 24))]),Ze 19 524287 (.store 2 (Zt 6) (Zt 25))]) .ret)⟩
def af86:AFunc:=⟨28,[.cell 2 (some 2)],Zq [Zo 0 2 (.alloc [Zi 0,Zi 0])] (.seq (Zq [Zm 0 5 0,Zo 1 6 (.len (Zt 5)),Zo 2 7 (.mov (Zn 0))] (.block 0 (.loop [2,5,6,7] (Zq [Zo 0 8 (.bin .lss (Zt 7) (Zt 6))] (.seq (.cond (Zt 8) .skip (.exit 0)) (.seq (.block 1 (Zq [Zm 0 9 7,Zo 1 10 (.indexA 2 none (Zt 5) (Zt 7)),Zo 2 11 (.load (some 2) (Zt 10)),Zo 3 4 (.alloc [Zi 0,Zi 0]),Zm 4 3 9,Zs 5 (.store 2 (Zt 4) (Zt 11))] (.seq (Zq [Zm 0 12 3,Zo 1 13 (.bin .eql (Zt 12) (Zn 0))] (.cond (Zt 13) (.ops [Zo 0 14 (.load (some 2) (Zt 4)),Zs 1 (.store 2 (Zt 2) (Zt 14))]) .skip)) (.ops [Zo 0 15 (.fieldA 0 (Zt 2)),Zl 1 16 15,Zo 2 17 (.fieldA 0 (Zt 4)),Zl 3 18 17,Zo 4 19 (.min [Zt 16,Zt 18]),Zo 5 20 (.fieldA 1 (Zt 2)),Zl 6 21 20,Zo 7 22 (.fieldA 1 (Zt 4)),Zl 8 23 22,Zo 9 24 (.max [Zt 21,Zt 23]),Zo 10 25 (.build [Zi 0,Zi 0] [(0,(1,Zt 19)),(1,(1,Zt 24))]),Zs 11 (.store 2 (Zt 2) (Zt 25))])))) (.ops [Zo 0 26 (.bin .add (Zt 7) (Zn 1)),Zm 1 7 26]))))))) (Zq [Zo 0 27 (.load (some 2) (Zt 2)),Zs 1 (.store 2 (Zt 2) (Zt 27))] .ret))⟩
def af87:AFunc:=⟨9,[.tmp 4],Zq [Zo 0 4 (.mov (.val (.bool false)))] (Zq [Zm 0 5 0,Zm 1 6 1,Zo 2 7 (Zc 101 [Zt 5,Zt 6]),Zo 3 8 (.bin .geq (Zt 7) (Zn 0)),Zm 4 4 8] .ret)⟩
def af88:AFunc:=⟨17,[.tmp 6],Zq [Zo 0 5 (.box (Zt 0)),Zo 1 6 (.mov (.val (.bool false)))] (Zq [Zl 0 7 1,Zo 1 8 (.load (some 5) (Zt 5)),Zo 2 9 (.fieldA 3 (Zt 5)),Zo 3 10 (.fieldA 0 (Zt 9)),Zl 4 11 10,Zo 5 12 (.load (some 10) (Zt 2)),Zl 6 13 3,Zl 7 14 4,Zo 8 15 (Zc 89 [Zt 7,Zt 8,Zt 11,Zt 12,Zt 13,Zt 14]),Zo 9 16 (.bin .lss (Zt 15) (Zn 0)),Zm 10 6 16] .ret)⟩
def af89:AFunc:=⟨36,[.tmp 12],Zq [Zo 0 7 (.box (Zt 1)),Zo 1 9 (.box (Zt 3)),Zo 2 12 (.mov (Zn 0))] (Zq [Zo 0 14 (.fieldA 0 (Zt 7)),Zo 1 15 (.load (some 3) (Zt 14)),Zo 2 16 (.mkfn (Fn.func 102) [Zt 15] []),Zm 3 13 16] (.seq (.draw [Zm 0 17 13,Zm 1 18 0,Zo 2 19 (.fieldA 0 (Zt 7)),Zd 3 20 4 (.load (some 3) (Zt 19)),Zm 4 21 2,Zo 5 22 (.load (some 10) (Zt 9)),Zm 6 23 0,Zd 7 24 64 (.nilck (Zt 23)),Zd 8 25 192 (.fieldA 2 (Zt 24)),Zd 9 26 448 (.load none (Zt 25)),Zd 10 27 960 (.len (Zt 26)),Zm 12 29 4,Zo 14 31 (.fieldA 0 (Zt 7)),Zd 15 32 16384 (.load (some 3) (Zt 31)),Zm 16 33 5,Zd 11 28 2046 (Zc 81 [Zt 18,Zt 20,Zt 21,Zt 22,Zt 27]),Zd 13 30 8191 (.call (Zt 17) [Zt 28,Zt 29]),Zd 17 34 131071 (Zc 46 [Zt 32,Zt 33]),Zd 18 35 262143 (.bin .sub (Zt 30) (Zt 34)),Zd 19 12 524287 (.mov (Zt 35))]) .ret))⟩
def af90:AFunc:=⟨15,[.tmp 5],Zq [Zo 0 4 (.box (Zt 0)),Zo 1 5 (.mov (.val (.bool false)))] (Zq [Zl 0 6 1,Zo 1 7 (.load (some 5) (Zt 4)),Zo 2 8 (.fieldA 3 (Zt 4)),Zo 3 9 (.fieldA 1 (Zt 8)),Zl 4 10 9,Zo 5 11 (.load (some 10) (Zt 2)),Zl 6 12 3,Zo 7 13 (Zc 89 [Zt 6,Zt 7,Zt 10,Zt 11,Zn 0,Zt 12]),Zo 8 14 (.bin .geq (Zt 13) (Zn 0)),Zm 9 5 14] .ret)⟩
def af91:AFunc:=⟨22,[],Zq [Zo 0 4 (.mov (Zn 1))] (.seq (Zq [Zl 0 6 1,Zl 1 7 2,Zo 2 8 (.bin .lss (Zt 6) (Zt 7))] (.cond (Zt 8) (.ops [Zo 0 4 (.mov (Zn (-1)))]) .skip)) (Zq [Zl 0 9 2,Zm 1 5 9] (.block 0 (.loop [0,1,4,5] (.seq (Zq [Zm 0 10 5,Zl 1 11 1,Zm 2 12 4,Zo 3 13 (.bin .add (Zt 11) (Zt 12)),Zo 4 14 (.bin .neq (Zt 10) (Zt 13))] (.cond (Zt 14) .skip (.exit 0))) (.seq (.block 1 (Zq [Zm 0 18 0,Zm 1 19 5,Zo 2 20 (.call (Zt 18) [Zt 19]),Zo 3 21 (.not (Zt 20))] (.cond (Zt 21) .ret .skip))) (.ops [Zm 0 15 5,Zm 1 16 4,Zo 2 17 (.bin .add (Zt 15) (Zt 16)),Zm 3 5 17])))))))⟩
def af92:AFunc:=⟨63,[],Zq [Zo 0 6 (.mov (Zn 20))] (Zq [Zm 0 10 6,Zo 1 7 (.mov (Zn 0)),Zm 2 8 10] (.seq (.block 0 (.loop [0,1,2,6,7,8] (.seq (Zq [Zm 0 11 8,Zm 1 12 1,Zo 2 13 (.bin .leq (Zt 11) (Zt 12))] (.cond (Zt 13) .skip (.exit 0))) (.block 1 (Zq [Zm 0 14 0,Zm 1 15 7,Zm 2 16 8,Zm 3 17 2,Zo 4 18 (Zc 103 [Zt 14,Zt 15,Zt 16,Zt 17])] (Zq [Zm 0 19 8,Zm 1 7 19] (.ops [Zm 0 20 8,Zm 1 21 6,Zo 2 22 (.bin .add (Zt 20) (Zt 21)),Zm 3 8 22]))))))) (Zq [Zm 0 23 0,Zm 1 24 7,Zm 2 25 1,Zm 3 26 2,Zo 4 27 (Zc 103 [Zt 23,Zt 24,Zt 25,Zt 26])] (.block 2 (.loop [0,1,2,6] (.seq (Zq [Zm 0 28 6,Zm 1 29 1,Zo 2 30 (.bin .lss (Zt 28) (Zt 29))] (.cond (Zt 30) .skip (.exit 2))) (.block 3 (Zq [Zm 0 31 6,Zo 1 32 (.bin .mul (Zn 2) (Zt 31)),Zo 2 7 (.mov (Zn 0)),Zm 3 8 32] (.seq (.block 4 (.loop [0,1,2,6,7,8] (.seq (Zq [Zm 0 33 8,Zm 1 34 1,Zo 2 35 (.bin .leq (Zt 33) (Zt 34))] (.cond (Zt 35) .skip (.exit 4))) (.block 5 (Zq [Zm 0 36 0,Zm 1 37 7,Zm 2 38 7,Zm 3 39 6,Zo 4 40 (.bin .add (Zt 38) (Zt 39)),Zm 5 41 8,Zm 6 42 2,Zo 7 43 (Zc 104 [Zt 36,Zt 37,Zt 40,Zt 41,Zt 42])] (Zq [Zm 0 44 8,Zm 1 7 44] (.ops [Zm 0 45 8,Zm 1 46 6,Zo 2 47 (.bin .mul (Zn 2) (Zt 46)),Zo 3 48 (.bin .add (Zt 45) (Zt 47)),Zm 4 8 48]))))))) (.seq (Zq [Zm 0 49 7,Zm 1 50 6,Zo 2 51 (.bin .add (Zt 49) (Zt 50)),Zm 3 9 51] (Zq [Zm 0 52 9,Zm 1 53 1,Zo 2 54 (.bin .lss (Zt 52) (Zt 53))] (.cond (Zt 54) (.ops [Zm 0 55 0,Zm 1 56 7,Zm 2 57 9,Zm 3 58 1,Zm 4 59 2,Zo 5 60 (Zc 104 [Zt 55,Zt 56,Zt 57,Zt 58,Zt 59])]) .skip))) (.ops [Zm 0 61 6,Zo 1 62 (.bin .mul (Zt 61) (Zn 2)),Zm 2 6 62])))))))))))⟩
def af93:AFunc:=⟨21,[.tmp 2],Zq [Zo 0 2 (.mov (Zn 0))] (.seq (.cond (.val .nilp) .skip .skip) .ret)⟩
def af94:AFunc:=⟨35,[.tmp 2],Zq [Zo 0 2 (.mov (Zn 0))] (Zq [Zm 0 3 0,Zo 1 4 (.bin .shr (Zt 3) (.val (.int .u64 1))),Zo 2 5 (.bin .and (Zt 4) (.val (.int .u64 6148914691236517205))),Zm 3 6 0,Zo 4 7 (.bin .and (Zt 6) (.val (.int .u64 6148914691236517205))),Zo 5 8 (.bin .add (Zt 5) (Zt 7)),Zm 6 0 8] (Zq [Zm 0 9 0,Zo 1 10 (.bin .shr (Zt 9) (.val (.int .u64 2))),Zo 2 11 (.bin .and (Zt 10) (.val (.int .u64 3689348814741910323))),Zm 3 12 0,Zo 4 13 (.bin .and (Zt 12) (.val (.int .u64 3689348814741910323))),Zo 5 14 (.bin .add (Zt 11) (Zt 13)),Zm 6 0 14] (Zq [Zm 0 15 0,Zo 1 16 (.bin .shr (Zt 15) (.val (.int .u64 4))),Zm 2 17 0,Zo 3 18 (.bin .add (Zt 16) (Zt 17)),Zo 4 19 (.bin .and (Zt 18) (.val (.int .u64 1085102592571150095))),Zm 5 0 19] (Zq [Zm 0 20 0,Zm 1 21 0,Zo 2 22 (.bin .shr (Zt 21) (.val (.int .u64 8))),Zo 3 23 (.bin .add (Zt 20) (Zt 22)),Zm 4 0 23] (Zq [Zm 0 24 0,Zm 1 25 0,Zo 2 26 (.bin .shr (Zt 25) (.val (.int .u64 16))),Zo 3 27 (.bin .add (Zt 24) (Zt 26)),Zm 4 0 27] (Zq [Zm 0 28 0,Zm 1 29 0,Zo 2 30 (.bin .shr (Zt 29) (.val (.int .u64 32))),Zo 3 31 (.bin .add (Zt 28) (Zt 30)),Zm 4 0 31] (Zq [Zm 0 32 0,Zo 1 33 (.conv .i64 (Zt 32)),Zo 2 34 (.bin .and (Zt 33) (Zn 127)),Zm 3 2 34] .ret)))))))⟩
def af95:AFunc:=⟨16,[],Zq [Zl 0 5 1,Zo 1 6 (.len (Zt 5)),Zo 2 7 (.mov (Zn 0))] (.block 0 (.loop [0,5,6,7] (Zq [Zo 0 8 (.bin .lss (Zt 7) (Zt 6))] (.seq (.cond (Zt 8) .skip (.exit 0)) (.seq (.block 1 (Zq [Zo 0 9 (.indexA 1 none (Zt 5) (Zt 7)),Zl 1 10 9,Zm 2 4 10] (Zq [Zm 0 11 0,Zm 1 12 4,Zo 2 13 (.call (Zt 11) [Zt 12]),Zo 3 14 (.not (Zt 13))] (.cond (Zt 14) .ret .skip)))) (.ops [Zo 0 15 (.bin .add (Zt 7) (Zn 1)),Zm 1 7 15]))))))⟩
def af96:AFunc:=⟨11,[.tmp 4],Zq [Zo 0 2 (.box (Zt 0)),Zo 1 4 (.mov (.val (.bool false)))] (Zq [Zm 0 5 1,Zo 1 6 (.fieldA 0 (Zt 2)),Zl 2 7 6,Zo 3 8 (.len (Zt 7)),Zo 4 9 (.bin .sub (Zt 8) (Zn 1)),Zo 5 10 (Zc 74 [Zt 5,Zn 0,Zt 9]),Zm 6 4 10] .ret)⟩
def af97:AFunc:=⟨30,[],Zq [Zo 0 3 (.box (Zt 0))] (.seq .skip (Zq [Zl 0 6 1,Zo 1 7 (Zc 98 [Zt 6])] (.block 0 (.rangeF (Zt 7) [8] (.ops [Zo 0 4 (.alloc [Zi 0,Zi 0,Zi 0,Zi 0,Zi 0,Zi 0,Zi 0,Zi 0,Zi 0,Zi 0]),Zs 1 (.store 10 (Zt 4) (Zt 8))]) (.block 1 (.seq (Zq [Zl 0 9 1,Zo 1 10 (.nilck (Zt 9)),Zo 2 11 (.fieldA 0 (Zt 10)),Zo 3 12 (.fieldA 0 (Zt 11)),Zl 4 13 12,Zo 5 14 (.len (Zt 13)),Zo 6 15 (.mov (Zn 0))] (.block 2 (.loop [1,2,3,4,14,15] (Zq [Zo 0 16 (.bin .lss (Zt 15) (Zt 14))] (.seq (.cond (Zt 16) .skip (.exit 2)) (.seq (.block 3 (Zq [Zm 0 17 15,Zm 1 5 17] (Zq [Zl 0 18 1,Zm 1 19 5,Zo 2 20 (.load (some 10) (Zt 4)),Zl 3 21 2,Zo 4 22 (Zc 80 [Zt 18,Zt 19,Zt 20,Zt 21]),Zo 5 23 (.len (Zt 22)),Zo 6 24 (.bin .eql (Zt 23) (Zn 0))] (.cond (Zt 24) (.exit 1) .skip)))) (.ops [Zo 0 25 (.bin .add (Zt 15) (Zn 1)),Zm 1 15 25]))))))) (Zq [Zl 0 26 3,Zo 1 27 (.load (some 10) (Zt 4)),Zo 2 28 (.call (Zt 26) [Zt 27]),Zo 3 29 (.not (Zt 28))] (.cond (Zt 29) .ret .skip))))))))⟩
def af98:AFunc:=⟨4,[.tmp 2],Zq [Zo 0 1 (.box (Zt 0)),Zo 1 2 (.mov (.val .nilfn))] (Zq [Zo 0 3 (.mkfn (Fn.func 105) [] [Zt 1]),Zm 1 2 3] .ret)⟩
def af99:AFunc:=⟨6,[.tmp 4],Zq [Zo 0 2 (.box (Zt 0)),Zo 1 3 (.box (Zt 1)),Zo 2 4 (.mov (.val .nilfn))] (Zq [Zo 0 5 (.mkfn (Fn.func 107) [] [Zt 2,Zt 3]),Zm 1 4 5] .ret)⟩
def af100:AFunc:=⟨116,[.cell 4 (some 2)],Zq [Zo 0 3 (.box (Zt 1)),Zo 1 4 (.alloc [Zi 0,Zi 0])] (.seq (.seq (.draw [Zm 0 11 0,Zd 1 12 1 (.nilck (Zt 11)),Zd 2 13 3 (.fieldA 3 (Zt 12)),Zd 3 14 7 (.load none (Zt 13)),Zo 4 15 (.load (some 15) (Zt 3)),Zd 5 16 31 (.lookup (.agg [true,true,true,true,true,true,true,true,true,true,true,true,true,true,true]) true (.agg [Zi 0,Zi 0]) (Zt 14) (Zt 15)),Zd 6 10 63 (.mov (Zt 16)),Zd 7 17 127 (.extract (Zt 10) 0),Zd 8 18 127 (.extract (Zt 10) 1),Zo 9 5 (.alloc [Zi 0,Zi 0]),Ze 10 767 (.store 2 (Zt 5) (Zt 17)),Zd 11 6 2047 (.mov (Zt 18))]) (Zq [Zm 0 19 6] (.cond (Zt 19) (Zq [Zo 0 20 (.load (some 2) (Zt 5)),Zs 1 (.store 2 (Zt 4) (Zt 20))] .ret) .skip))) (.seq (.draw [Zm 0 21 0,Zd 1 22 1 (.nilck (Zt 21)),Zd 2 23 3 (.fieldA 0 (Zt 22)),Zd 3 24 7 (.fieldA 0 (Zt 23)),Zd 4 25 15 (.load none (Zt 24)),Zo 5 26 (.fieldA 10 (Zt 3)),Zd 6 27 32 (.load none (Zt 26)),Zd 7 28 127 (.indexA 7 none (Zt 25) (Zt 27)),Zd 8 29 255 (.fieldA 0 (Zt 28)),Zd 9 30 511 (.load (some 2) (Zt 29)),Zo 10 7 (.alloc [Zi 0,Zi 0]),Ze 11 2047 (.store 2 (Zt 7) (Zt 30))]) (.seq (Zq [Zm 0 31 0,Zo 1 32 (.nilck (Zt 31)),Zo 2 33 (.fieldA 0 (Zt 32)),Zo 3 34 (.fieldA 1 (Zt 33)),Zl 4 35 34,Zo 5 36 (.len (Zt 35)),Zo 6 37 (.mov (Zn 0))] (.block 0 (.loop [0,3,4,7,35,36,37] (Zq [Zo 0 38 (.bin .lss (Zt 37) (Zt 36))] (.seq (.cond (Zt 38) .skip (.exit 0)) (.seq (.block 1 (Zq [Zm 0 39 37,Zo 1 40 (.indexA 7 none (Zt 35) (Zt 37)),Zo 2 41 (.load (some 7) (Zt 40)),Zo 3 9 (.alloc [Zi 0,Zi 0,Zi 0,Zi 0,Zi 0,Zi 0,Zi 0]),Zm 4 8 39,Zs 5 (.store 7 (Zt 9) (Zt 41))] (.seq (Zq [Zo 0 42 (.fieldA 14 (Zt 3)),Zl 1 43 42,Zm 2 44 8,Zo 3 45 (.bin .shr (Zt 43) (Zt 44)),Zo 4 46 (.bin .and (Zt 45) (.val (.int .u64 1))),Zo 5 47 (.bin .eql (Zt 46) (.val (.int .u64 0))),Zm 6 48 47,⟨7,some 49,.fieldA 0 (Zt 9),some (48,false),0⟩,⟨8,some 50,.load none (Zt 49),some (48,false),0⟩,⟨9,some 51,.bin .neq (Zt 50) (Zn 2),some (48,false),0⟩,Zo 10 52 (.pick (Zt 48) (.val (.bool true)) (Zt 51)),Zm 11 53 52,⟨12,some 54,.fieldA 4 (Zt 9),some (53,false),0⟩,⟨13,some 55,.load none (Zt 54),some (53,false),0⟩,⟨14,some 56,.fieldA 10 (Zt 3),some (53,false),0⟩,⟨15,some 57,.load none (Zt 56),some (53,false),0⟩,⟨16,some 58,.bin .neq (Zt 55) (Zt 57),some (53,false),0⟩,Zo 17 59 (.pick (Zt 53) (.val (.bool true)) (Zt 58))] (.cond (Zt 59) (.exit 1) .skip)) (.seq (.block 2 (.loop [0,3,4,7,8,9,35,36,37] (.seq (.seq (.draw [Zo 0 60 (.fieldA 0 (Zt 7)),Zd 1 61 1 (.load none (Zt 60)),Zo 2 62 (.fieldA 1 (Zt 7)),Zd 3 63 4 (.load none (Zt 62)),Zd 4 64 15 (.bin .leq (Zt 61) (Zt 63)),Zd 5 65 31 (.mov (Zt 64)),⟨6,some 66,.mov (Zt 0),some (65,true),63⟩,⟨7,some 67,.fieldA 11 (Zt 3),some (65,true),63⟩,⟨8,some 68,.load (some 3) (Zt 67),some (65,true),191⟩,⟨9,some 69,.fieldA 0 (Zt 7),some (65,true),63⟩,⟨10,some 70,.load none (Zt 69),some (65,true),575⟩,⟨11,some 71,.fieldA 0 (Zt 3),some (65,true),63⟩,⟨12,some 72,.load (some 10) (Zt 71),some (65,true),2111⟩,⟨13,some 73,.mov (Zt 8),some (65,true),63⟩,⟨15,some 75,.fieldA 5 (Zt 9),some (65,true),63⟩,⟨16,some 76,.fieldA 0 (Zt 75),some (65,true),32831⟩,⟨17,some 77,.load none (Zt 76),some (65,true),98367⟩,⟨14,some 74,Zc 81 [Zt 66,Zt 68,Zt 70,Zt 72,Zt 73],some (65,true),16383⟩,⟨18,some 78,.bin .lss (Zt 74) (Zt 77),some (65,true),262143⟩,Zd 19 79 524287 (.pick (Zt 65) (Zt 78) (.val (.bool false)))]) (.cond (Zt 79) .skip (.exit 2))) (.block 3 (.ops [Zo 0 80 (.fieldA 0 (Zt 7)),Zl 1 81 80,Zo 2 82 (.bin .add (Zt 81) (Zn 1)),Zo 3 83 (.fieldA 0 (Zt 7)),Zs 4 (.store 1 (Zt 83) (Zt 82))]))))) (.block 4 (.loop [0,3,4,7,8,9,35,36,37] (.seq (.seq (.draw [Zo 0 84 (.fieldA 0 (Zt 7)),Zd 1 85 1 (.load none (Zt 84)),Zo 2 86 (.fieldA 1 (Zt 7)),Zd 3 87 4 (.load none (Zt 86)),Zd 4 88 15 (.bin .leq (Zt 85) (Zt 87)),Zd 5 89 31 (.mov (Zt 88)),⟨6,some 90,.mov (Zt 0),some (89,true),63⟩,⟨7,some 91,.fieldA 11 (Zt 3),some (89,true),63⟩,⟨8,some 92,.load (some 3) (Zt 91),some (89,true),191⟩,⟨9,some 93,.fieldA 1 (Zt 7),some (89,true),63⟩,⟨10,some 94,.load none (Zt 93),some (89,true),575⟩,⟨11,some 95,.fieldA 0 (Zt 3),some (89,true),63⟩,⟨12,some 96,.load (some 10) (Zt 95),some (89,true),2111⟩,⟨13,some 97,.mov (Zt 8),some (89,true),63⟩,⟨15,some 99,.fieldA 5 (Zt 9),some (89,true),63⟩,⟨16,some 100,.fieldA 1 (Zt 99),some (89,true),32831⟩,⟨17,some 101,.load none (Zt 100),some (89,true),98367⟩,⟨14,some 98,Zc 81 [Zt 90,Zt 92,Zt 94,Zt 96,Zt 97],some (89,true),16383⟩,⟨18,some 102,.bin .gtr (Zt 98) (Zt 101),some (89,true),262143⟩,Zd 19 103 524287 (.pick (Zt 89) (Zt 102) (.val (.bool false)))]) (.cond (Zt 103) .skip (.exit 4))) (.block 5 (.ops [Zo 0 104 (.fieldA 1 (Zt 7)),Zl 1 105 104,Zo 2 106 (.bin .sub (Zt 105) (Zn 1)),Zo 3 107 (.fieldA 1 (Zt 7)),Zs 4 (.store 1 (Zt 107) (Zt 106))]))))))))) (.ops [Zo 0 108 (.bin .add (Zt 37) (Zn 1)),Zm 1 37 108]))))))) (.seq (.draw [Zm 0 109 0,Zd 1 110 1 (.nilck (Zt 109)),Zd 2 111 3 (.fieldA 3 (Zt 110)),Zd 3 112 7 (.load none (Zt 111)),Zo 4 113 (.load (some 15) (Zt 3)),Zo 5 114 (.load (some 2) (Zt 7)),Ze 6 63 (.mapupd (.agg [true,true,true,true,true,true,true,true,true,true,true,true,true,true,true]) (Zt 112) (Zt 113) (Zt 114))]) (Zq [Zo 0 115 (.load (some 2) (Zt 7)),Zs 1 (.store 2 (Zt 4) (Zt 115))] .ret)))))⟩
def af101:AFunc:=⟨19,[.tmp 4],Zq [Zo 0 4 (.mov (Zn 0))] (.seq (Zq [Zm 0 6 0,Zo 1 7 (.len (Zt 6)),Zo 2 8 (.mov (Zn 0))] (.block 0 (.loop [0,1,7,8] (Zq [Zo 0 9 (.bin .lss (Zt 8) (Zt 7))] (.seq (.cond (Zt 9) .skip (.exit 0)) (.seq (.block 1 (Zq [Zm 0 10 8,Zm 1 5 10] (Zq [Zm 0 11 1,Zm 1 12 0,Zm 2 13 5,Zo 3 14 (.indexA 5 none (Zt 12) (Zt 13)),Zo 4 15 (.load (some 5) (Zt 14)),Zo 5 16 (.call (Zt 11) [Zt 15])] (.cond (Zt 16) (Zq [Zm 0 17 5,Zm 1 4 17] .ret) .skip)))) (.ops [Zo 0 18 (.bin .add (Zt 8) (Zn 1)),Zm 1 8 18]))))))) (Zq [Zo 0 4 (.mov (Zn (-1)))] .ret))⟩
def af102:AFunc:=⟨16,[.tmp 6],Zq [Zo 0 3 (.box (Zt 0)),Zo 1 6 (.mov (Zn 0))] (Zq [Zo 0 7 (.fieldA 2 (Zt 3)),Zl 1 8 7,Zm 2 9 1,Zm 3 10 2,Zo 4 11 (.fieldA 1 (Zt 3)),Zl 5 12 11,Zo 6 13 (.bin .mul (Zt 10) (Zt 12)),Zo 7 14 (.bin .add (Zt 9) (Zt 13)),Zo 8 15 (.min [Zt 8,Zt 14]),Zm 9 6 15] .ret)⟩
def af103:AFunc:=⟨53,[],Zq [Zm 0 10 1,Zo 1 11 (.bin .add (Zt 10) (Zn 1)),Zm 2 8 11] (.block 0 (.loop [0,1,2,3,8] (.seq (Zq [Zm 0 12 8,Zm 1 13 2,Zo 2 14 (.bin .lss (Zt 12) (Zt 13))] (.cond (Zt 14) .skip (.exit 0))) (.seq (.block 1 (Zq [Zm 0 17 8,Zm 1 9 17] (.block 2 (.loop [0,1,2,3,8,9] (.seq (.seq (.draw [Zm 0 18 9,Zm 1 19 1,Zd 2 20 3 (.bin .gtr (Zt 18) (Zt 19)),Zd 3 21 7 (.mov (Zt 20)),⟨4,some 22,.mov (Zt 3),some (21,true),15⟩,⟨5,some 23,.mov (Zt 0),some (21,true),15⟩,⟨6,some 24,.mov (Zt 9),some (21,true),15⟩,⟨7,some 25,.indexA 1 none (Zt 23) (Zt 24),some (21,true),111⟩,⟨8,some 26,.load none (Zt 25),some (21,true),239⟩,⟨9,some 27,.mov (Zt 0),some (21,true),15⟩,⟨10,some 28,.mov (Zt 9),some (21,true),15⟩,⟨11,some 29,.bin .sub (Zt 28) (Zn 1),some (21,true),1039⟩,⟨12,some 30,.indexA 1 none (Zt 27) (Zt 29),some (21,true),3599⟩,⟨13,some 31,.load none (Zt 30),some (21,true),7695⟩,⟨14,some 32,.call (Zt 22) [Zt 26,Zt 31],some (21,true),16383⟩,⟨15,some 33,.bin .lss (Zt 32) (Zn 0),some (21,true),32767⟩,Zd 16 34 65535 (.pick (Zt 21) (Zt 33) (.val (.bool false)))]) (.cond (Zt 34) .skip (.exit 2))) (.seq (.block 3 (.draw [Zm 0 37 0,Zm 1 38 9,Zm 2 39 0,Zm 3 40 9,Zd 4 41 8 (.bin .sub (Zt 40) (Zn 1)),Zm 5 42 0,Zm 6 43 9,Zd 7 44 64 (.bin .sub (Zt 43) (Zn 1)),Zd 8 45 224 (.indexA 1 none (Zt 42) (Zt 44)),Zd 9 46 480 (.load none (Zt 45)),Zm 10 47 0,Zm 11 48 9,Zd 12 49 3072 (.indexA 1 none (Zt 47) (Zt 48)),Zd 13 50 7168 (.load none (Zt 49)),Zd 14 51 16355 (.indexA 1 none (Zt 37) (Zt 38)),Ze 15 32739 (.store 1 (Zt 51) (Zt 46)),Zd 16 52 65535 (.indexA 1 none (Zt 39) (Zt 41)),Ze 17 131071 (.store 1 (Zt 52) (Zt 50))])) (.ops [Zm 0 35 9,Zo 1 36 (.bin .sub (Zt 35) (Zn 1)),Zm 2 9 36]))))))) (.ops [Zm 0 15 8,Zo 1 16 (.bin .add (Zt 15) (Zn 1)),Zm 2 8 16])))))⟩
def af104:AFunc:=⟨220,[],.seq (Zq [Zm 0 25 2,Zm 1 26 1,Zo 2 27 (.bin .sub (Zt 25) (Zt 26)),Zo 3 28 (.bin .eql (Zt 27) (Zn 1))] (.cond (Zt 28) (Zq [Zm 0 29 2,Zm 1 10 29] (Zq [Zm 0 30 3,Zm 1 11 30] (.seq (.block 0 (.loop [0,1,4,10,11] (.seq (Zq [Zm 0 31 10,Zm 1 32 11,Zo 2 33 (.bin .lss (Zt 31) (Zt 32))] (.cond (Zt 33) .skip (.exit 0))) (.block 1 (Zq [Zm 0 34 10,Zm 1 35 11,Zo 2 36 (.bin .add (Zt 34) (Zt 35)),Zo 3 37 (.conv .u64 (Zt 36)),Zo 4 38 (.bin .shr (Zt 37) (.val (.int .u64 1))),Zo 5 39 (.conv .i64 (Zt 38)),Zm 6 12 39] (.seq (.draw [Zm 0 40 4,Zm 1 41 0,Zm 2 42 12,Zd 3 43 6 (.indexA 1 none (Zt 41) (Zt 42)),Zd 4 44 14 (.load none (Zt 43)),Zm 5 45 0,Zm 6 46 1,Zd 7 47 96 (.indexA 1 none (Zt 45) (Zt 46)),Zd 8 48 224 (.load none (Zt 47)),Zd 9 49 511 (.call (Zt 40) [Zt 44,Zt 48]),Zd 10 50 1023 (.bin .lss (Zt 49) (Zn 0))]) (.cond (Zt 50) (.ops [Zm 0 51 12,Zo 1 52 (.bin .add (Zt 51) (Zn 1)),Zm 2 10 52]) (.ops [Zm 0 53 12,Zm 1 11 53])))))))) (.seq (Zq [Zm 0 54 1,Zm 1 13 54] (.block 2 (.loop [0,10,13] (.seq (Zq [Zm 0 55 13,Zm 1 56 10,Zo 2 57 (.bin .sub (Zt 56) (Zn 1)),Zo 3 58 (.bin .lss (Zt 55) (Zt 57))] (.cond (Zt 58) .skip (.exit 2))) (.seq (.block 3 (.draw [Zm 0 61 0,Zm 1 62 13,Zm 2 63 0,Zm 3 64 13,Zd 4 65 8 (.bin .add (Zt 64) (Zn 1)),Zm 5 66 0,Zm 6 67 13,Zd 7 68 64 (.bin .add (Zt 67) (Zn 1)),Zd 8 69 224 (.indexA 1 none (Zt 66) (Zt 68)),Zd 9 70 480 (.load none (Zt 69)),Zm 10 71 0,Zm 11 72 13,Zd 12 73 3072 (.indexA 1 none (Zt 71) (Zt 72)),Zd 13 74 7168 (.load none (Zt 73)),Zd 14 75 16355 (.indexA 1 none (Zt 61) (Zt 62)),Ze 15 32739 (.store 1 (Zt 75) (Zt 70)),Zd 16 76 65535 (.indexA 1 none (Zt 63) (Zt 65)),Ze 17 131071 (.store 1 (Zt 76) (Zt 74))])) (.ops [Zm 0 59 13,Zo 1 60 (.bin .add (Zt 59) (Zn 1)),Zm 2 13 60])))))) .ret)))) .skip)) (.seq (Zq [Zm 0 77 3,Zm 1 78 2,Zo 2 79 (.bin .sub (Zt 77) (Zt 78)),Zo 3 80 (.bin .eql (Zt 79) (Zn 1))] (.cond (Zt 80) (Zq [Zm 0 81 1,Zm 1 14 81] (Zq [Zm 0 82 2,Zm 1 15 82] (.seq (.block 4 (.loop [0,2,4,14,15] (.seq (Zq [Zm 0 83 14,Zm 1 84 15,Zo 2 85 (.bin .lss (Zt 83) (Zt 84))] (.cond (Zt 85) .skip (.exit 4))) (.block 5 (Zq [Zm 0 86 14,Zm 1 87 15,Zo 2 88 (.bin .add (Zt 86) (Zt 87)),Zo 3 89 (.conv .u64 (Zt 88)),Zo 4 90 (.bin .shr (Zt 89) (.val (.int .u64 1))),Zo 5 91 (.conv .i64 (Zt 90)),Zm 6 16 91] (.seq (.draw [Zm 0 92 4,Zm 1 93 0,Zm 2 94 2,Zd 3 95 6 (.indexA 1 none (Zt 93) (Zt 94)),Zd 4 96 14 (.load none (Zt 95)),Zm 5 97 0,Zm 6 98 16,Zd 7 99 96 (.indexA 1 none (Zt 97) (Zt 98)),Zd 8 100 224 (.load none (Zt 99)),Zd 9 101 511 (.call (Zt 92) [Zt 96,Zt 100]),Zd 10 102 1023 (.bin .lss (Zt 101) (Zn 0)),Zd 11 103 2047 (.not (Zt 102))]) (.cond (Zt 103) (.ops [Zm 0 104 16,Zo 1 105 (.bin .add (Zt 104) (Zn 1)),Zm 2 14 105]) (.ops [Zm 0 106 16,Zm 1 15 106])))))))) (.seq (Zq [Zm 0 107 2,Zm 1 17 107] (.block 6 (.loop [0,14,17] (.seq (Zq [Zm 0 108 17,Zm 1 109 14,Zo 2 110 (.bin .gtr (Zt 108) (Zt 109))] (.cond (Zt 110) .skip (.exit 6))) (.seq (.block 7 (.draw [Zm 0 113 0,Zm 1 114 17,Zm 2 115 0,Zm 3 116 17,Zd 4 117 8 (.bin .sub (Zt 116) (Zn 1)),Zm 5 118 0,Zm 6 119 17,Zd 7 120 64 (.bin .sub (Zt 119) (Zn 1)),Zd 8 121 224 (.indexA 1 none (Zt 118) (Zt 120)),Zd 9 122 480 (.load none (Zt 121)),Zm 10 123 0,Zm 11 124 17,Zd 12 125 3072 (.indexA 1 none (Zt 123) (Zt 124)),Zd 13 126 7168 (.load none (Zt 125)),Zd 14 127 16355 (.indexA 1 none (Zt 113) (Zt 114)),Ze 15 32739 (.store 1 (Zt 127) (Zt 122)),Zd 16 128 65535 (.indexA 1 none (Zt 115) (Zt 117)),Ze 17 131071 (.store 1 (Zt 128) (Zt 126))])) (.ops [Zm 0 111 17,Zo 1 112 (.bin .sub (Zt 111) (Zn 1)),Zm 2 17 112])))))) .ret)))) .skip)) (Zq [Zm 0 129 1,Zm 1 130 3,Zo 2 131 (.bin .add (Zt 129) (Zt 130)),Zo 3 132 (.conv .u64 (Zt 131)),Zo 4 133 (.bin .shr (Zt 132) (.val (.int .u64 1))),Zo 5 134 (.conv .i64 (Zt 133)),Zm 6 18 134] (Zq [Zm 0 135 18,Zm 1 136 2,Zo 2 137 (.bin .add (Zt 135) (Zt 136)),Zm 3 19 137] (Zq [Zo 0 20 (.mov (Zn 0)),Zo 1 21 (.mov (Zn 0))] (.seq (Zq [Zm 0 138 2,Zm 1 139 18,Zo 2 140 (.bin .gtr (Zt 138) (Zt 139))] (.cond (Zt 140) (Zq [Zm 0 141 19,Zm 1 142 3,Zo 2 143 (.bin .sub (Zt 141) (Zt 142)),Zm 3 20 143] (.ops [Zm 0 144 18,Zm 1 21 144])) (Zq [Zm 0 145 1,Zm 1 20 145] (.ops [Zm 0 146 2,Zm 1 21 146])))) (Zq [Zm 0 147 19,Zo 1 148 (.bin .sub (Zt 147) (Zn 1)),Zm 2 22 148] (.seq (.block 8 (.loop [0,1,2,3,4,18,19,20,21,22] (.seq (Zq [Zm 0 149 20,Zm 1 150 21,Zo 2 151 (.bin .lss (Zt 149) (Zt 150))] (.cond (Zt 151) .skip (.exit 8))) (.block 9 (Zq [Zm 0 152 20,Zm 1 153 21,Zo 2 154 (.bin .add (Zt 152) (Zt 153)),Zo 3 155 (.conv .u64 (Zt 154)),Zo 4 156 (.bin .shr (Zt 155) (.val (.int .u64 1))),Zo 5 157 (.conv .i64 (Zt 156)),Zm 6 23 157] (.seq (.draw [Zm 0 158 4,Zm 1 159 0,Zm 2 160 22,Zm 3 161 23,Zd 4 162 12 (.bin .sub (Zt 160) (Zt 161)),Zd 5 163 30 (.indexA 1 none (Zt 159) (Zt 162)),Zd 6 164 62 (.load none (Zt 163)),Zm 7 165 0,Zm 8 166 23,Zd 9 167 384 (.indexA 1 none (Zt 165) (Zt 166)),Zd 10 168 896 (.load none (Zt 167)),Zd 11 169 2047 (.call (Zt 158) [Zt 164,Zt 168]),Zd 12 170 4095 (.bin .lss (Zt 169) (Zn 0)),Zd 13 171 8191 (.not (Zt 170))]) (.cond (Zt 171) (.ops [Zm 0 172 23,Zo 1 173 (.bin .add (Zt 172) (Zn 1)),Zm 2 20 173]) (.ops [Zm 0 174 23,Zm 1 21 174])))))))) (Zq [Zm 0 175 19,Zm 1 176 20,Zo 2 177 (.bin .sub (Zt 175) (Zt 176)),Zm 3 24 177] (.seq (Zq [Zm 0 178 20,Zm 1 179 2,Zo 2 180 (.bin .lss (Zt 178) (Zt 179)),Zm 3 181 180,⟨4,some 182,.mov (Zt 2),some (181,true),0⟩,⟨5,some 183,.mov (Zt 24),some (181,true),0⟩,⟨6,some 184,.bin .lss (Zt 182) (Zt 183),some (181,true),0⟩,Zo 7 185 (.pick (Zt 181) (Zt 184) (.val (.bool false)))] (.cond (Zt 185) (.ops [Zm 0 186 0,Zm 1 187 20,Zm 2 188 2,Zm 3 189 24,Zm 4 190 4,Zo 5 191 (Zc 108 [Zt 186,Zt 187,Zt 188,Zt 189,Zt 190])]) .skip)) (.seq (Zq [Zm 0 192 1,Zm 1 193 20,Zo 2 194 (.bin .lss (Zt 192) (Zt 193)),Zm 3 195 194,⟨4,some 196,.mov (Zt 20),some (195,true),0⟩,⟨5,some 197,.mov (Zt 18),some (195,true),0⟩,⟨6,some 198,.bin .lss (Zt 196) (Zt 197),some (195,true),0⟩,Zo 7 199 (.pick (Zt 195) (Zt 198) (.val (.bool false)))] (.cond (Zt 199) (.ops [Zm 0 200 0,Zm 1 201 1,Zm 2 202 20,Zm 3 203 18,Zm 4 204 4,Zo 5 205 (Zc 104 [Zt 200,Zt 201,Zt 202,Zt 203,Zt 204])]) .skip)) (Zq [Zm 0 206 18,Zm 1 207 24,Zo 2 208 (.bin .lss (Zt 206) (Zt 207)),Zm 3 209 208,⟨4,some 210,.mov (Zt 24),some (209,true),0⟩,⟨5,some 211,.mov (Zt 3),some (209,true),0⟩,⟨6,some 212,.bin .lss (Zt 210) (Zt 211),some (209,true),0⟩,Zo 7 213 (.pick (Zt 209) (Zt 212) (.val (.bool false)))] (.cond (Zt 213) (.ops [Zm 0 214 0,Zm 1 215 18,Zm 2 216 24,Zm 3 217 3,Zm 4 218 4,Zo 5 219 (Zc 104 [Zt 214,Zt 215,Zt 216,Zt 217,Zt 218])]) .skip))))))))))))⟩
def af105:AFunc:=⟨8,[],Zq [Zo 0 2 (.box (Zt 0))] (Zq [Zo 0 3 (.alloc [Zi 0,Zi 0,Zi 0,Zi 0,Zi 0,Zi 0,Zi 0,Zi 0,Zi 0,Zi 0])] (Zq [Zo 0 4 (.alloc [.nilfn])] (Zq [Zo 0 5 (.mkfn (Fn.func 106) [] [Zt 1,Zt 2,Zt 3,Zt 4]),Zs 1 (.store 1 (Zt 4) (Zt 5))] (.ops [Zl 0 6 4,Zo 1 7 (.call (Zt 6) [Zn 0])]))))⟩
def af106:AFunc:=⟨67,[.tmp 6],Zq [Zo 0 6 (.mov (.val (.bool false)))] (.seq (Zq [Zm 0 8 0,Zl 1 9 1,Zo 2 10 (.nilck (Zt 9)),Zo 3 11 (.fieldA 0 (Zt 10)),Zo 4 12 (.fieldA 1 (Zt 11)),Zl 5 13 12,Zo 6 14 (.len (Zt 13)),Zo 7 15 (.bin .eql (Zt 8) (Zt 14))] (.cond (Zt 15) (Zq [Zl 0 16 2,Zo 1 17 (.load (some 10) (Zt 3)),Zo 2 18 (.call (Zt 16) [Zt 17]),Zm 3 6 18] .ret) .skip)) (.seq (Zq [Zl 0 19 1,Zo 1 20 (.nilck (Zt 19)),Zo 2 21 (.fieldA 0 (Zt 20)),Zo 3 22 (.fieldA 1 (Zt 21)),Zl 4 23 22,Zm 5 24 0,Zo 6 25 (.indexA 7 none (Zt 23) (Zt 24)),Zo 7 26 (.fieldA 0 (Zt 25)),Zl 8 27 26,Zo 9 28 (.bin .neq (Zt 27) (Zn 0))] (.cond (Zt 28) (Zq [Zm 0 29 0,Zo 1 30 (.indexA 1 (some 10) (Zt 3) (Zt 29)),Zs 2 (.store 1 (Zt 30) (Zn 0))] (Zq [Zl 0 31 4,Zm 1 32 0,Zo 2 33 (.bin .add (Zt 32) (Zn 1)),Zo 3 34 (.call (Zt 31) [Zt 33]),Zm 4 6 34] .ret)) .skip)) (.seq (Zq [Zl 0 35 1,Zo 1 36 (.nilck (Zt 35)),Zo 2 37 (.fieldA 0 (Zt 36)),Zo 3 38 (.fieldA 1 (Zt 37)),Zl 4 39 38,Zm 5 40 0,Zo 6 41 (.indexA 7 none (Zt 39) (Zt 40)),Zo 7 42 (.fieldA 1 (Zt 41)),Zo 8 43 (.fieldA 0 (Zt 42)),Zl 9 44 43,Zm 10 7 44] (.block 0 (.loop [0,1,3,4,7] (.seq (Zq [Zm 0 45 7,Zl 1 46 1,Zo 2 47 (.nilck (Zt 46)),Zo 3 48 (.fieldA 0 (Zt 47)),Zo 4 49 (.fieldA 1 (Zt 48)),Zl 5 50 49,Zm 6 51 0,Zo 7 52 (.indexA 7 none (Zt 50) (Zt 51)),Zo 8 53 (.fieldA 1 (Zt 52)),Zo 9 54 (.fieldA 1 (Zt 53)),Zl 10 55 54,Zo 11 56 (.bin .leq (Zt 45) (Zt 55))] (.cond (Zt 56) .skip (.exit 0))) (.seq (.block 1 (Zq [Zm 0 59 0,Zm 1 60 7,Zo 2 61 (.indexA 1 (some 10) (Zt 3) (Zt 59)),Zs 3 (.store 1 (Zt 61) (Zt 60))] (Zq [Zl 0 62 4,Zm 1 63 0,Zo 2 64 (.bin .add (Zt 63) (Zn 1)),Zo 3 65 (.call (Zt 62) [Zt 64]),Zo 4 66 (.not (Zt 65))] (.cond (Zt 66) (Zq [Zo 0 6 (.mov (.val (.bool false)))] .ret) .skip)))) (.ops [Zm 0 57 7,Zo 1 58 (.bin .add (Zt 57) (Zn 1)),Zm 2 7 58])))))) (Zq [Zo 0 6 (.mov (.val (.bool true)))] .ret))))⟩
def af107:AFunc:=⟨43,[],.seq (.draw [Zl 0 7 1,Zd 1 8 1 (.nilck (Zt 7)),Zd 2 9 3 (.fieldA 0 (Zt 8)),Zd 3 10 7 (.fieldA 0 (Zt 9)),Zd 4 11 15 (.load none (Zt 10)),Zl 5 12 2,Zd 6 13 63 (.indexA 7 none (Zt 11) (Zt 12)),Zd 7 14 127 (.load (some 7) (Zt 13)),Zo 8 4 (.alloc [Zi 0,Zi 0,Zi 0,Zi 0,Zi 0,Zi 0,Zi 0]),Ze 9 511 (.store 7 (Zt 4) (Zt 14))]) (.seq .skip (Zq [Zo 0 15 (.fieldA 2 (Zt 4)),Zo 1 16 (.fieldA 0 (Zt 15)),Zl 2 17 16,Zm 3 5 17] (.block 0 (.loop [0,4,5] (.seq (Zq [Zm 0 18 5,Zo 1 19 (.fieldA 2 (Zt 4)),Zo 2 20 (.fieldA 1 (Zt 19)),Zl 3 21 20,Zo 4 22 (.bin .leq (Zt 18) (Zt 21))] (.cond (Zt 22) .skip (.exit 0))) (.seq (.block 1 (Zq [Zo 0 25 (.fieldA 4 (Zt 4)),Zo 1 26 (.fieldA 0 (Zt 25)),Zl 2 27 26,Zm 3 6 27] (.block 2 (.loop [0,4,5,6] (.seq (Zq [Zm 0 28 6,Zo 1 29 (.fieldA 4 (Zt 4)),Zo 2 30 (.fieldA 1 (Zt 29)),Zl 3 31 30,Zo 4 32 (.bin .leq (Zt 28) (Zt 31))] (.cond (Zt 32) .skip (.exit 2))) (.seq (.block 3 (Zq [Zm 0 35 0,Zm 1 36 5,Zm 2 37 6,Zo 3 38 (.fieldA 6 (Zt 4)),Zl 4 39 38,Zo 5 40 (.build [Zi 0,Zi 0,Zi 0] [(0,(1,Zt 36)),(1,(1,Zt 37)),(2,(1,Zt 39))]),Zo 6 41 (.call (Zt 35) [Zt 40]),Zo 7 42 (.not (Zt 41))] (.cond (Zt 42) (.exit 0) .skip))) (.ops [Zm 0 33 6,Zo 1 34 (.bin .add (Zt 33) (Zn 1)),Zm 2 6 34]))))))) (.ops [Zm 0 23 5,Zo 1 24 (.bin .add (Zt 23) (Zn 1)),Zm 2 5 24])))))))⟩
def af108:AFunc:=⟨58,[],Zq [Zm 0 12 2,Zm 1 13 1,Zo 2 14 (.bin .sub (Zt 12) (Zt 13)),Zm 3 10 14] (Zq [Zm 0 15 3,Zm 1 16 2,Zo 2 17 (.bin .sub (Zt 15) (Zt 16)),Zm 3 11 17] (.seq (.block 0 (.loop [0,2,4,10,11] (.seq (Zq [Zm 0 18 10,Zm 1 19 11,Zo 2 20 (.bin .neq (Zt 18) (Zt 19))] (.cond (Zt 20) .skip (.exit 0))) (.block 1 (Zq [Zm 0 21 10,Zm 1 22 11,Zo 2 23 (.bin .gtr (Zt 21) (Zt 22))] (.cond (Zt 23) (Zq [Zm 0 24 0,Zm 1 25 2,Zm 2 26 10,Zo 3 27 (.bin .sub (Zt 25) (Zt 26)),Zm 4 28 2,Zm 5 29 11,Zm 6 30 4,Zo 7 31 (Zc 109 [Zt 24,Zt 27,Zt 28,Zt 29,Zt 30])] (.ops [Zm 0 32 10,Zm 1 33 11,Zo 2 34 (.bin .sub (Zt 32) (Zt 33)),Zm 3 10 34])) (Zq [Zm 0 35 0,Zm 1 36 2,Zm 2 37 10,Zo 3 38 (.bin .sub (Zt 36) (Zt 37)),Zm 4 39 2,Zm 5 40 11,Zo 6 41 (.bin .add (Zt 39) (Zt 40)),Zm 7 42 10,Zo 8 43 (.bin .sub (Zt 41) (Zt 42)),Zm 9 44 10,Zm 10 45 4,Zo 11 46 (Zc 109 [Zt 35,Zt 38,Zt 43,Zt 44,Zt 45])] (.ops [Zm 0 47 11,Zm 1 48 10,Zo 2 49 (.bin .sub (Zt 47) (Zt 48)),Zm 3 11 49])))))))) (.ops [Zm 0 50 0,Zm 1 51 2,Zm 2 52 10,Zo 3 53 (.bin .sub (Zt 51) (Zt 52)),Zm 4 54 2,Zm 5 55 10,Zm 6 56 4,Zo 7 57 (Zc 109 [Zt 50,Zt 53,Zt 54,Zt 55,Zt 56])])))⟩
def af109:AFunc:=⟨38,[],Zq [Zo 0 10 (.mov (Zn 0))] (.block 0 (.loop [0,1,2,3,10] (.seq (Zq [Zm 0 11 10,Zm 1 12 3,Zo 2 13 (.bin .lss (Zt 11) (Zt 12))] (.cond (Zt 13) .skip (.exit 0))) (.seq (.block 1 (.draw [Zm 0 16 0,Zm 1 17 1,Zm 2 18 10,Zd 3 19 6 (.bin .add (Zt 17) (Zt 18)),Zm 4 20 0,Zm 5 21 2,Zm 6 22 10,Zd 7 23 96 (.bin .add (Zt 21) (Zt 22)),Zm 8 24 0,Zm 9 25 2,Zm 10 26 10,Zd 11 27 1536 (.bin .add (Zt 25) (Zt 26)),Zd 12 28 3840 (.indexA 1 none (Zt 24) (Zt 27)),Zd 13 29 7936 (.load none (Zt 28)),Zm 14 30 0,Zm 15 31 1,Zm 16 32 10,Zd 17 33 98304 (.bin .add (Zt 31) (Zt 32)),Zd 18 34 245760 (.indexA 1 none (Zt 30) (Zt 33)),Zd 19 35 507904 (.load none (Zt 34)),Zd 20 36 1048335 (.indexA 1 none (Zt 16) (Zt 19)),Ze 21 2096911 (.store 1 (Zt 36) (Zt 29)),Zd 22 37 4194303 (.indexA 1 none (Zt 20) (Zt 23)),Ze 23 8388607 (.store 1 (Zt 37) (Zt 35))])) (.ops [Zm 0 14 10,Zo 1 15 (.bin .add (Zt 14) (Zn 1)),Zm 2 10 15])))))⟩
def af125:AFunc:=⟨14,[.tmp 8],Zq [Zo 0 4 (.box (Zt 0)),Zo 1 5 (.box (Zt 1)),Zo 2 8 (.mov (Zn 0))] (Zq [Zm 0 9 2,Zo 1 10 (.load (some 3) (Zt 5)),Zm 2 11 3,Zo 3 12 (Zc 46 [Zt 10,Zt 11]),Zo 4 13 (.bin .sub (Zt 9) (Zt 12)),Zm 5 8 13] .ret)⟩
def af126:AFunc:=⟨10,[.tmp 8],Zq [Zo 0 4 (.box (Zt 0)),Zo 1 5 (.box (Zt 1)),Zo 2 8 (.mov (Zn 0))] (Zq [Zm 0 9 2,Zm 1 8 9] .ret)⟩
def af127:AFunc:=⟨19,[.tmp 8],Zq [Zo 0 4 (.box (Zt 0)),Zo 1 5 (.box (Zt 1)),Zo 2 8 (.mov (Zn 0))] (.seq (.cond (.val .nilp) .skip .skip) .ret)⟩
end Ev
end Go.Proofs.Ytlcjlcllbgjplaa

/- The code of the functions, for the evaluator: the table. Printed by program. -/
namespace Go.Proofs.Ytlcjlcllbgjplaa
open Go
namespace Ev
def fnTree:FT:=(.node 65 af65 (.node 42 af42 (.node 22 af22 (.node 16 af16 (.node 13 af13 (.node 12 af12 (.node 11 af11 .leaf .leaf) .leaf) (.node 15 af15 (.node 14 af14 .leaf .leaf) .leaf)) (.node 19 af19 (.node 18 af18 (.node 17 af17 .leaf .leaf) .leaf) (.node 21 af21 (.node 20 af20 .leaf .leaf) .leaf))) (.node 34 af34 (.node 30 af30 (.node 26 af26 (.node 23 af23 .leaf .leaf) .leaf) (.node 33 af33 (.node 31 af31 .leaf .leaf) .leaf)) (.node 39 af39 (.node 37 af37 (.node 36 af36 .leaf .leaf) .leaf) (.node 41 af41 (.node 40 af40 .leaf .leaf) .leaf)))) (.node 54 af54 (.node 48 af48 (.node 45 af45 (.node 44 af44 (.node 43 af43 .leaf .leaf) .leaf) (.node 47 af47 (.node 46 af46 .leaf .leaf) .leaf)) (.node 51 af51 (.node 50 af50 (.node 49 af49 .leaf .leaf) .leaf) (.node 53 af53 (.node 52 af52 .leaf .leaf) .leaf))) (.node 60 af60 (.node 57 af57 (.node 56 af56 (.node 55 af55 .leaf .leaf) .leaf) (.node 59 af59 (.node 58 af58 .leaf .leaf) .leaf)) (.node 63 af63 (.node 62 af62 (.node 61 af61 .leaf .leaf) .leaf) (.node 64 af64 .leaf .leaf))))) (.node 90 af90 (.node 78 af78 (.node 71 af71 (.node 68 af68 (.node 67 af67 (.node 66 af66 .leaf .leaf) .leaf) (.node 70 af70 (.node 69 af69 .leaf .leaf) .leaf)) (.node 74 af74 (.node 73 af73 (.node 72 af72 .leaf .leaf) .leaf) (.node 76 af76 (.node 75 af75 .leaf .leaf) .leaf))) (.node 84 af84 (.node 81 af81 (.node 80 af80 (.node 79 af79 .leaf .leaf) .leaf) (.node 83 af83 (.node 82 af82 .leaf .leaf) .leaf)) (.node 87 af87 (.node 86 af86 (.node 85 af85 .leaf .leaf) .leaf) (.node 89 af89 (.node 88 af88 .leaf .leaf) .leaf)))) (.node 102 af102 (.node 96 af96 (.node 93 af93 (.node 92 af92 (.node 91 af91 .leaf .leaf) .leaf) (.node 95 af95 (.node 94 af94 .leaf .leaf) .leaf)) (.node 99 af99 (.node 98 af98 (.node 97 af97 .leaf .leaf) .leaf) (.node 101 af101 (.node 100 af100 .leaf .leaf) .leaf))) (.node 108 af108 (.node 105 af105 (.node 104 af104 (.node 103 af103 .leaf .leaf) .leaf) (.node 107 af107 (.node 106 af106 .leaf .leaf) .leaf)) (.node 126 af126 (.node 125 af125 (.node 109 af109 .leaf .leaf) .leaf) (.node 127 af127 .leaf .leaf))))))
end Ev
end Go.Proofs.Ytlcjlcllbgjplaa

/- What a road is, and what is returned of it: plain. -/
namespace Go.Proofs.Ytlcjlcllbgjplaa
open Go
namespace Rd
open Clm (Sp)
structure Pt where
  height:Sp
  stiff:Sp
  rise:Sp
  full:Int
deriving Inhabited
structure Evt where
  kind:Int
  load:Sp
  days:Int
  part:Int
  shows:Sp
deriving Inhabited
structure Road where
  parts:List Pt
  events:List Evt
structure Tr where
  stiff:Int
  rise:Int
  full:Int
deriving Inhabited
def sunk (p:Tr)(load:Int):Int:=(load+p.stiff - 1) / p.stiff
def rested (p:Tr)(h days:Int):Int:=min p.full (h+days * p.rise)
def stepE (v:Evt)(p:Tr)(h load:Int):Int:=if v.kind=0 then h - sunk p load else if v.kind=1 then rested p h v.days else h
def after (p:Tr):List Evt→List Int→Int→Int
  |[],_,h=>h
  |v::l,ls,h=>after p l ls.tail (stepE v p h (ls.headD 0))
def heightR (r:Road)(p:Tr)(h:Int)(ls:List Int)(many:Nat):Int:=after p (r.events.take many) ls h
theorem sunk_nn {p:Tr}(h1:1≤p.stiff){load:Int}(h0:0≤load):0≤sunk p load:=Int.ediv_nonneg (by omega) (by omega)
theorem zox (v:Evt)(p:Tr){a b:Int}(h:a≤b)(load:Int):stepE v p a load≤stepE v p b load:=by
  unfold stepE rested
  split
  · omega
  · split
    · generalize v.days * p.rise=x;omega
    · exact h
theorem zch (p:Tr):∀ (l:List Evt) (ls:List Int) {a b:Int},a≤b→after p l ls a≤after p l ls b
  |[],_,_,_,h=>h
  |v::l,ls,_a,_b,h=>zch p l ls.tail (zox v p h _)
def upL (f:Int→Int)(b:Int):Nat→Int→Int
  |0,x=>x
  |n+1,x=>if f x<b then upL f b n (x+1) else x
def dnH (f:Int→Int)(b:Int):Nat→Int→Int
  |0,x=>x
  |n+1,x=>if b<f x then dnH f b n (x - 1) else x
def narrow (f:Int→Int)(w s:Sp):Sp:=
  let lo:=upL f w.lo (s.hi+1 - s.lo).toNat s.lo
  ⟨lo,dnH f w.hi (s.hi+1 - lo).toNat s.hi⟩
theorem znb (f:Int→Int)(b:Int)(hf:∀ x y,x≤y→f x≤f y):∀ (n:Nat) (x:Int),x≤upL f b n x∧upL f b n x≤x+n∧(∀ y,x≤y→y<x+n→(upL f b n x≤y↔b≤f y))
  |0,x=>⟨Int.le_refl _,by simp[upL],fun y h1 h2=>by simp at h2;omega⟩
  |n+1,x=>by
    obtain ⟨h1,h2,h3⟩:=znb f b hf n (x+1)
    unfold upL
    by_cases hx:f x<b
    · rw[if_pos hx]
      refine ⟨by omega,by omega,fun y hy1 hy2=>?_⟩
      by_cases hyx:y=x
      · subst hyx
        exact ⟨fun h=>by omega,fun h=>by omega⟩
      · exact h3 y (by omega) (by omega)
    · rw[if_neg hx]
      exact ⟨Int.le_refl _,by omega,fun y hy1 hy2=>⟨fun _=>by have:=hf x y hy1;omega,fun _=>hy1⟩⟩
theorem zoh (f:Int→Int)(b:Int)(hf:∀ x y,x≤y→f x≤f y):∀ (n:Nat) (x:Int),dnH f b n x≤x∧x - n≤dnH f b n x∧(∀ y,y≤x→x - n<y→(y≤dnH f b n x↔f y≤b))
  |0,x=>⟨Int.le_refl _,by simp[dnH],fun y h1 h2=>by simp at h2;omega⟩
  |n+1,x=>by
    obtain ⟨h1,h2,h3⟩:=zoh f b hf n (x - 1)
    unfold dnH
    by_cases hx:b<f x
    · rw[if_pos hx]
      refine ⟨by omega,by omega,fun y hy1 hy2=>?_⟩
      by_cases hyx:y=x
      · subst hyx
        exact ⟨fun h=>by omega,fun h=>by omega⟩
      · exact h3 y (by omega) (by omega)
    · rw[if_neg hx]
      exact ⟨Int.le_refl _,by omega,fun y hy1 hy2=>⟨fun _=>by have:=hf y x hy1;omega,fun _=>hy1⟩⟩
theorem zpu (f:Int→Int)(w s:Sp)(hf:∀ x y,x≤y→f x≤f y)(y:Int):(narrow f w s).has y↔s.has y∧w.lo≤f y∧f y≤w.hi:=by
  obtain ⟨a1,a2,a3⟩:=znb f w.lo hf (s.hi+1 - s.lo).toNat s.lo
  obtain ⟨b1,b2,b3⟩:=zoh f w.hi hf (s.hi+1 - (upL f w.lo (s.hi+1 - s.lo).toNat s.lo)).toNat s.hi
  unfold narrow
  simp only[Sp.has]
  generalize upL f w.lo (s.hi+1 - s.lo).toNat s.lo=lo at *
  generalize dnH f w.hi (s.hi+1 - lo).toNat s.hi=hi at *
  constructor
  · rintro ⟨h1,h2⟩
    have:=(a3 y (by omega) (by omega)).1 h1
    have:=(b3 y (by omega) (by omega)).1 h2
    omega
  · rintro ⟨⟨h1,h2⟩,h3,h4⟩
    have:=(a3 y (by omega) (by omega)).2 h3
    have:=(b3 y (by omega) (by omega)).2 h4
    omega
def bit (s i:Nat):Bool:=s.testBit i
def firstL (r:Road)(number:Nat)(p:Tr)(ls:List Int)(looks:Nat):List (Evt × Nat)→Sp→Sp
  |[],s=>s
  |(v,i)::l,s=>firstL r number p ls looks l (if bit looks i∧v.kind=2∧v.part=number then narrow (fun h=>heightR r p h ls i) v.shows s else s)
def firstR (r:Road)(number:Nat)(p:Tr)(ls:List Int)(looks:Nat):Sp:=firstL r number p ls looks r.events.zipIdx (r.parts.getD number default).height
def right (r:Road)(number:Nat)(p:Tr)(ls:List Int)(looks:Nat)(h:Int):Prop:=
  ∀ q∈r.events.zipIdx,bit looks q.2=true→q.1.kind=2→q.1.part=number→q.1.shows.lo≤heightR r p h ls q.2∧heightR r p h ls q.2≤q.1.shows.hi
theorem zii (r:Road)(number:Nat)(p:Tr)(ls:List Int)(looks:Nat)(y:Int):∀ (l:List (Evt × Nat)) (s:Sp),(firstL r number p ls looks l s).has y↔s.has y∧∀ q∈l,bit looks q.2=true→q.1.kind=2→q.1.part=number→q.1.shows.lo≤heightR r p y ls q.2∧heightR r p y ls q.2≤q.1.shows.hi
  |[],s=>by simp[firstL]
  |(v,i)::l,s=>by
    rw[firstL,zii r number p ls looks y l]
    have hm:∀ a b,a≤b→heightR r p a ls i≤heightR r p b ls i:=fun a b h=>zch p _ _ h
    by_cases hc:bit looks i∧v.kind=2∧v.part=number
    · rw[if_pos hc,zpu _ _ _ hm]
      constructor
      · rintro ⟨⟨h1,h2⟩,h3⟩
        refine ⟨h1,fun q hq=>?_⟩
        rcases List.mem_cons.1 hq with rfl|hq
        · exact fun _ _ _=>h2
        · exact h3 q hq
      · rintro ⟨h1,h2⟩
        exact ⟨⟨h1,h2 (v,i) (by simp) hc.1 hc.2.1 hc.2.2⟩,fun q hq=>h2 q (by simp[hq])⟩
    · rw[if_neg hc]
      constructor
      · rintro ⟨h1,h3⟩
        refine ⟨h1,fun q hq=>?_⟩
        rcases List.mem_cons.1 hq with rfl|hq
        · exact fun a b d=>absurd ⟨a,b,d⟩ hc
        · exact h3 q hq
      · rintro ⟨h1,h2⟩
        exact ⟨h1,fun q hq=>h2 q (by simp[hq])⟩
theorem zih (r:Road)(number:Nat)(p:Tr)(ls:List Int)(looks:Nat)(y:Int):(firstR r number p ls looks).has y↔(r.parts.getD number default).height.has y∧right r number p ls looks y:=zii r number p ls looks y _ _
def partsR (p:Pt):List Tr:=(Clm.spanL p.stiff).flatMap fun s=>(Clm.spanL p.rise).map fun k=>⟨s,k,p.full⟩
structure Way where
  part:Tr
  first:Sp
def waysR (r:Road)(number:Nat)(ls:List Int)(looks:Nat):List Way:=
  (partsR (r.parts.getD number default)).filterMap fun p=>if (firstR r number p ls looks).some then some ⟨p,firstR r number p ls looks⟩ else none
def allR:List Evt→List (List Int)
  |[]=>[[]]
  |v::l=>if v.kind=0 then (Clm.spanL v.load).flatMap fun k=>(allR l).map (k::·) else (allR l).map (0::·)
def toldR (r:Road)(looks:Nat):List (List Int):=(allR r.events).filter fun ls=>(List.range r.parts.length).all fun i=>!(waysR r i ls looks).isEmpty
def canR (r:Road)(looks:Nat):Bool:=!(toldR r looks).isEmpty
def everyR (r:Road):Nat:=2 ^ r.events.length - 1
def spanR (r:Road)(number:Nat)(f:Way→List Int→Sp):Sp:=Clm.hull ((toldR r (everyR r)).flatMap fun ls=>(waysR r number ls (everyR r)).map fun w=>f w ls)
def heightsR (r:Road)(number many:Nat):Sp:=spanR r number fun w ls=>⟨heightR r w.part w.first.lo ls many,heightR r w.part w.first.hi ls many⟩
def sinksR (r:Road)(number:Nat)(load:Int):Sp:=spanR r number fun w _=>⟨sunk w.part load,sunk w.part load⟩
def leftR (r:Road)(w:Way)(first:Int)(ls:List Int)(days load:Int):Int:=rested w.part (heightR r w.part first ls r.events.length) days - sunk w.part load
def sureR (r:Road)(days load:Int):Bool:=(toldR r (everyR r)).all fun ls=>(List.range r.parts.length).all fun i=>(waysR r i ls (everyR r)).all fun w=>decide (0≤leftR r w w.first.lo ls days load)
def mayR (r:Road)(load:Int):Bool:=(toldR r (everyR r)).any fun ls=>(List.range r.parts.length).all fun i=>(waysR r i ls (everyR r)).any fun w=>decide (0≤leftR r w w.first.hi ls 0 load)
def bearsR (r:Road)(load:Int):Int:=if sureR r 0 load then 2 else if mayR r load then 1 else 0
end Rd
end Go.Proofs.Ytlcjlcllbgjplaa

/- What the truths of clamps are, and what is returned of them. -/
namespace Go.Proofs.Ytlcjlcllbgjplaa
open Go
namespace Clm
theorem mem_span (s:Sp)(x:Int):x∈spanL s↔s.has x:=by
  simp only[spanL,List.mem_map,List.mem_range,Sp.has]
  constructor
  · rintro ⟨i,h,rfl⟩;omega
  · intro h;exact ⟨(x - s.lo).toNat,by omega,by omega⟩
theorem zua (p:Pl)(s:Size):s∈sizes p↔p.long.has s.l∧p.wide.has s.w∧p.high.has s.h:=by
  simp only[sizes,List.mem_flatMap,List.mem_map,mem_span]
  constructor
  · rintro ⟨l,hl,w,hw,h,hh,rfl⟩;exact ⟨hl,hw,hh⟩
  · intro h;exact ⟨s.l,h.1,s.w,h.2.1,s.h,h.2.2,rfl⟩
theorem isSpan_iff (s:Sp)(a b w:Int):isSpan s a b w=true↔a≤s.lo∧s.lo≤s.hi∧s.hi≤b∧s.hi - s.lo≤w:=by simp[isSpan]
structure Fine (c:Cl):Prop where
  piles:1≤c.piles.length∧c.piles.length≤4
  pack:1≤c.pack.lo∧c.pack.lo≤c.pack.hi∧c.pack.hi≤5∧c.pack.hi - c.pack.lo≤2
  events:c.events.length≤6
  pile:∀ p∈c.piles,(1≤p.long.lo∧p.long.lo≤p.long.hi∧p.long.hi≤10∧p.long.hi - p.long.lo≤1)∧(1≤p.wide.lo∧p.wide.lo≤p.wide.hi∧p.wide.hi≤10∧p.wide.hi - p.wide.lo≤1)∧(1≤p.high.lo∧p.high.lo≤p.high.hi∧p.high.hi≤10∧p.high.hi - p.high.lo≤1)
  event:∀ v∈c.events,(0≤v.clamp∧v.clamp<c.piles.length)∧(v.kind=0∨v.kind=1)∧0≤v.sods.lo∧v.sods.lo≤v.sods.hi∧v.sods.hi≤5000∧v.sods.hi - v.sods.lo≤(if v.kind=0 then 3 else 5000)
theorem valid_iff (c:Cl):valid c=true↔Fine c:=by
  simp only[valid,Bool.and_eq_true,decide_eq_true_eq,isSpan_iff,List.all_eq_true]
  exact ⟨fun h => ⟨h.1.1.1.1, h.1.1.1.2, h.1.1.2, fun p hp => ⟨(h.1.2 p hp).1.1, (h.1.2 p hp).1.2, (h.1.2 p hp).2⟩, fun v hv => ⟨(h.2 v hv).1.1, (h.2 v hv).1.2, (h.2 v hv).2⟩⟩,
    fun h=>⟨⟨⟨⟨h.piles,h.pack⟩,h.events⟩,fun p hp=>⟨⟨(h.pile p hp).1,(h.pile p hp).2.1⟩,(h.pile p hp).2.2⟩⟩,fun v hv=>⟨⟨(h.event v hv).1,(h.event v hv).2.1⟩,(h.event v hv).2.2⟩⟩⟩
theorem zho {c:Cl}(hc:Fine c)(number counts:Nat):∀ e∈befell c number counts,e.fine:=by
  intro e he
  simp only[befell,List.mem_map] at he
  obtain ⟨⟨v,i⟩,hp,rfl⟩:=he
  have hv:v∈c.events:=by
    have:=List.mem_zipIdx hp
    obtain ⟨_,_,h⟩:=this
    simp only[h];exact List.getElem_mem _
  have:=hc.event v hv
  simp only
  split
  · trivial
  · split
    · exact ⟨this.2.2.1,this.2.2.2.1⟩
    · split<;>trivial
theorem zxk {c:Cl}{i:Nat}(h:i<c.piles.length):c.piles.getD i default∈c.piles:=by
  rw[List.getD_eq_getElem?_getD,List.getElem?_eq_getElem h];exact List.getElem_mem _
theorem zni {c:Cl}(hc:Fine c){i:Nat}(hi:i<c.piles.length){k:Int}(hk:0≤k){s:Size}(hs:s∈sizes (c.piles.getD i default)):0≤s.sods k:=by
  have h1:=hc.pile _ (zxk hi)
  rw[zua] at hs
  simp only[Sp.has] at hs
  unfold Size.sods
  have a:0≤s.l:=by omega
  have b:0≤s.w:=by omega
  have d:0≤s.h:=by omega
  exact Int.mul_nonneg (Int.mul_nonneg (Int.mul_nonneg a b) d) hk
theorem mem_ways {c:Cl}(hc:Fine c){i:Nat}(hi:i<c.piles.length){k:Int}(hk:0≤k)(counts:Nat)(w:Way):
    w∈ways c i k counts↔w.size∈sizes (c.piles.getD i default)∧w.log=logOf c i k counts w.size∧∃ y,Goes (befell c i counts) (w.size.sods k) y:=by
  simp only[ways,List.mem_filterMap]
  constructor
  · rintro ⟨s,hs,h⟩
    split at h
    · rename_i hh
      cases h
      exact ⟨hs,rfl,(zkp _ _ (zho hc i counts) (zni hc hi hk hs)).1 hh⟩
    · cases h
  · rintro ⟨h1,h2,h3⟩
    refine ⟨w.size,h1,?_⟩
    rw[show ((logOf c i k counts w.size).headD Sp.no).some=true from (zkp _ _ (zho hc i counts) (zni hc hi hk h1)).2 h3]
    obtain ⟨a,b⟩:=w
    simp only at h2;subst h2;rfl
end Clm
end Go.Proofs.Ytlcjlcllbgjplaa
