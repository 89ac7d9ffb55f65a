/- What the reference computes of a road, and that it is what the program does. -/
import Derived.Test.YtfpepkbflnendaaGreatLbEA
import Derived.CallsIn
/- The evaluator, gone through with values that are not known: temporaries as lists of pairs, rules for code. -/
namespace Go.Proofs.YtfpepkbflnendaaGreat
open Go
namespace Ev
def tmA (N:Nat):List (Nat × AV)→List AV
 |[]=>List.replicate N .unk
 |(t,v)::l=>(tmA N l).set t v
@[simp] theorem zlk (N:Nat):∀ l,(tmA N l).length=N
  |[]=>by simp[tmA]
  |(t,v)::l=>by simp[tmA,zlk N l]
theorem zaa (N t t':Nat)(v:AV)(l:List (Nat × AV)):(tmA N ((t,v)::l)).getD t' .unk=if t'=t then (if t<N then v else .unk) else (tmA N l).getD t' .unk:=by
 simp only[tmA,List.getD_eq_getElem?_getD,List.getElem?_set,zlk]
 by_cases h:t=t'
 ·subst h;simp;split<;>simp
 ·rw[if_neg h,if_neg fun e=>h e.symm]
theorem zjn (N t:Nat):(tmA N []).getD t .unk=.unk:=by
 simp only[tmA,List.getD_eq_getElem?_getD,List.getElem?_replicate]
 split<;>rfl
theorem zab (C:Cfg)(N t t':Nat)(v:AV)(l:List (Nat × AV)):val C (tmA N ((t,v)::l)) (.tmp t')=if t'=t then (if t<N then v else .unk) else val C (tmA N l) (.tmp t'):=zaa N t t' v l
theorem zae (C:Cfg)(N t:Nat):val C (tmA N []) (.tmp t)=.unk:=zjn N t
theorem zau (C:Cfg)(tm:List AV)(v:AV):val C tm (.val v)=v:=rfl
theorem zah (N t:Nat)(v:AV)(l:List (Nat × AV)):putT (tmA N l) (some t) v=tmA N ((t,v)::l):=rfl
theorem zai (tm:List AV)(v:AV):putT tm none v=tm:=rfl
def zipI:Nat→List AV→List (Nat × AV)→List (Nat × AV)
 |_,[],acc=>acc
 |i,v::l,acc=>zipI (i+1) l ((i,v)::acc)
theorem zkm (N:Nat)(f:Nat→AV):∀ (live:List Nat) (acc:List (Nat × AV)),live.foldl (fun a t=>a.set t (f t)) (tmA N acc)=tmA N (live.foldl (fun a t=>(t,f t)::a) acc)
 |[],_=>rfl
 |t::l,acc=>by
  simp only[List.foldl_cons]
  exact zkm N f l ((t,f t)::acc)
def lk (N:Nat)(l:List (Nat × AV))(t:Nat):AV:=(tmA N l).getD t .unk
theorem zal (N t t':Nat)(v:AV)(l:List (Nat × AV)):lk N ((t,v)::l) t'=if t'=t then (if t<N then v else .unk) else lk N l t':=zaa N t t' v l
theorem zag (N:Nat)(live:List Nat)(l:List (Nat × AV)):keepT live (tmA N l)=tmA N (live.foldl (fun a t=>(t,lk N l t)::a) []):=by
 unfold keepT
 rw[zlk]
 exact zkm N (fun t=>(tmA N l).getD t .unk) live []
theorem zrq (N:Nat):∀ (args:List AV) (i:Nat) (acc:List (Nat × AV)),tmA N (zipI i args acc)=(args.zipIdx i).foldl (fun tm p=>tm.set p.2 p.1) (tmA N acc)
 |[],_,_=>rfl
 |v::l,i,acc=>by
  simp only[zipI,List.zipIdx_cons,List.foldl_cons]
  exact zrq N l (i+1) ((i,v)::acc)
theorem zns:∀ (args pre:List AV) (m:Nat),args.length≤m→(args.zipIdx pre.length).foldl (fun tm p=>tm.set p.2 p.1) (pre++List.replicate m AV.unk)=pre++(args++List.replicate (m - args.length) .unk)
 |[],pre,m,_=>by simp
 |v::l,pre,0,h=>by simp at h
 |v::l,pre,m+1,h=>by
  simp only[List.zipIdx_cons,List.foldl_cons]
  have e:(pre++List.replicate (m+1) AV.unk).set pre.length v=(pre++[v])++List.replicate m .unk:=by
   rw[List.set_append_right _ _ (Nat.le_refl _),Nat.sub_self,List.replicate_succ]
   simp
  rw[e]
  have:=zns l (pre++[v]) m (by simpa using h)
  simp only[List.length_append,List.length_cons,List.length_nil,Nat.zero_add] at this
  rw[this]
  simp
theorem zyu {N:Nat}{args:List AV}(h:args.length≤N):args++List.replicate (N - args.length) .unk=tmA N (zipI 0 args []):=by
 rw[zrq]
 have:=zns args [] N h
 simp only[List.length_nil,List.nil_append] at this
 rw[← this];rfl

theorem nat_nn (d:Nat):((d:Int)<0)=False:=by simp

def Does (o:Option (AExit × St))(Q:AExit→St→Prop):Prop:=∃ e st,o=some (e,st)∧Q e st
def DoesO (o:Option (Option AV × St))(Q:Option AV→St→Prop):Prop:=∃ r st,o=some (r,st)∧Q r st
theorem Does.mono {o:Option (AExit × St)}{Q R:AExit→St→Prop}(h:Does o Q)(k:∀ e st,Q e st→R e st):Does o R:=by
 obtain ⟨e,st,h1,h2⟩:=h;exact ⟨e,st,h1,k e st h2⟩
section
variable {C:Cfg} {call:CallF} {pin:Nat} {rd:Option Nat} {Q:AExit→St→Prop} {st:St} {a b c:AC}
def Then (C:Cfg)(call:CallF)(pin:Nat)(rd:Option Nat)(b:AC)(Q:AExit→St→Prop):AExit→St→Prop
 |.normal,st=>Does (ev C call pin rd b st) Q
 |e,st=>Q e st
def OutB (id:Nat)(Q:AExit→St→Prop):AExit→St→Prop
 |.exit i,st=>if i=id then Q .normal st else Q (.exit i) st
 |e,st=>Q e st
def Ops (Q:AExit→St→Prop):Option AV→St→Prop
 |none,st=>Q .normal st
 |some v,st=>Q (.panic v) st
theorem zaq (h:Q .normal st):Does (ev C call pin rd .skip st) Q:=⟨_,_,rfl,h⟩
theorem zar {id:Nat}(h:Q (.exit id) st):Does (ev C call pin rd (.exit id) st) Q:=⟨_,_,rfl,h⟩
theorem zax (h:Q .ret st):Does (ev C call pin rd .ret st) Q:=⟨_,_,rfl,h⟩
theorem zaw (h:Does (ev C call pin rd a st) (Then C call pin rd b Q)):Does (ev C call pin rd (.seq a b) st) Q:=by
 obtain ⟨e,st1,h1,h2⟩:=h
 unfold Does
 simp only[ev,h1]
 cases e<;>simp only[Then] at h2
 ·exact h2
 ·exact ⟨_,_,rfl,h2⟩
 ·exact ⟨_,_,rfl,h2⟩
 ·exact ⟨_,_,rfl,h2⟩
theorem zap {x:Opnd}(hx:val C st.tm x=.bool true)(h:Does (ev C call pin rd a st) Q):Does (ev C call pin rd (.cond x a b) st) Q:=by
 unfold Does at h ⊢
 simp only[ev,hx,cond_true]
 exact h
theorem zam {x:Opnd}(hx:val C st.tm x=.bool false)(h:Does (ev C call pin rd b st) Q):Does (ev C call pin rd (.cond x a b) st) Q:=by
 unfold Does at h ⊢
 simp only[ev,hx,cond_false]
 exact h
theorem zao {id:Nat}(h:Does (ev C call pin rd a st) (OutB id Q)):Does (ev C call pin rd (.block id a) st) Q:=by
 obtain ⟨e,st1,h1,h2⟩:=h
 unfold Does
 simp only[ev,h1]
 cases e with
 |exit i=>
  simp only[OutB] at h2
  split at h2
  ·rename_i hi;simp only[hi,if_true];exact ⟨_,_,rfl,h2⟩
  ·rename_i hi;simp only[hi,if_false];exact ⟨_,_,rfl,h2⟩
 |normal=>exact ⟨_,_,rfl,h2⟩
 |ret=>exact ⟨_,_,rfl,h2⟩
 |panic v=>exact ⟨_,_,rfl,h2⟩
theorem zay {l:List AOp}(h:DoesO (evOps C call pin rd.isSome false l [] st) (Ops Q)):Does (ev C call pin rd (.ops l) st) Q:=by
 obtain ⟨r,st1,h1,h2⟩:=h
 unfold Does
 simp only[ev,h1,Option.map_some]
 cases r with
 |none=>exact ⟨_,_,rfl,h2⟩
 |some v=>exact ⟨_,_,rfl,h2⟩
theorem zas {l:List AOp}(h:DoesO (evOps C call pin rd.isSome true l [] st) (fun r st=>match r with|none=>Q .normal st|some v=>Q (.panic v) { st with tm:=forget (l.filterMap (·.dst)) st.tm })):Does (ev C call pin rd (.draw l) st) Q:=by
 obtain ⟨r,st1,h1,h2⟩:=h
 unfold Does
 simp only[ev,h1,Option.map_some]
 cases r with
 |none=>exact ⟨_,_,rfl,h2⟩
 |some v=>exact ⟨_,_,rfl,h2⟩
variable {nod drawn:Bool} {fl:List (Nat × List Nat)} {R:Option AV→St→Prop} {o:AOp} {l:List AOp}
theorem zaz (h:R none st):DoesO (evOps C call pin nod drawn [] fl st) R:=⟨_,_,rfl,h⟩
theorem zak {ft:Option (List Nat)}{st1:St}(h1:ev1 C call pin nod drawn fl o st=some (.next ft st1))(h:DoesO (evOps C call pin nod drawn l (addFl o.ix ft fl) st1) R):DoesO (evOps C call pin nod drawn (o::l) fl st) R:=by
 unfold DoesO at h ⊢
 simp only[evOps,h1]
 exact h
theorem zgq {v:AV}{st1:St}(h1:ev1 C call pin nod drawn fl o st=some (.pan v st1))(h:R (some v) st1):DoesO (evOps C call pin nod drawn (o::l) fl st) R:=by
 unfold DoesO
 simp only[evOps,h1]
 exact ⟨_,_,rfl,h⟩
theorem zhe {live:List Nat}(I:Nat→St→Prop)(k:Nat)(hk:k<fuelL)(h0:I k (gcC C pin { st with tm:=keepT live st.tm }))
  (hround:∀ k st,I k st→Does (ev C call pin rd c st) (fun e st'=>match e with|.normal=>∃ k',k=k'+1∧I k' (gcC C pin { st' with tm:=keepT live st'.tm })|e=>Q e st')):Does (ev C call pin rd (.loop live c) st) Q:=by
 have main:∀ (n k:Nat) (st:St),k<n→I k (gcC C pin { st with tm:=keepT live st.tm })→∃ e st',loopN (ev C call pin rd c) (fun st=>gcC C pin { st with tm:=keepT live st.tm }) n st=some (e,st')∧Q e st':=by
  intro n
  induction n with
  |zero=>intro k st hk;omega
  |succ n ih=>
   intro k st hk hI
   obtain ⟨e,st1,h1,h2⟩:=hround k _ hI
   simp only[loopN,h1]
   cases e with
   |normal=>
    obtain ⟨k',rfl,h3⟩:=h2
    exact ih k' st1 (by omega) h3
   |exit i=>exact ⟨_,_,rfl,h2⟩
   |ret=>exact ⟨_,_,rfl,h2⟩
   |panic v=>exact ⟨_,_,rfl,h2⟩
 obtain ⟨e,st',h1,h2⟩:=main fuelL k st hk h0
 unfold Does
 simp only[ev]
 exact ⟨e,st',h1,h2⟩
end
theorem zdj {C:Cfg}(h:C.calm=true)(pin:Nat)(st:St):gcC C pin st=st:=by
 unfold gcC;rw[h];rfl
theorem zea {C:Cfg}(h:C.calm=true)(pin:Nat)(x:CRes)(hp:List AB):tidyC C pin x hp=(x,hp):=by
 unfold tidyC;rw[h];rfl

def CallsTo (C:Cfg)(n:Nat)(f:AV)(args:List AV)(H:List AB)(R:CRes→List AB→List Nat→Prop):Prop:=∃ x H' tc,Ev.call C n f args H=some (x,H',tc)∧R x H' tc
def Left (H:List AB)(x:CRes)(st:St)(R:CRes→List AB→List Nat→Prop):Prop:=if bareQ x.val st.tc then R x H [] else R x (overH H st.hp st.tc++st.hp.drop H.length) st.tc
theorem yar {C:Cfg}{n f:Nat}{first captured args:List AV}{H:List AB}{R:CRes→List AB→List Nat→Prop}{fn:AFunc}(hc:C.calm=true)(hx:C.ext f=none)(hxh:C.exth f=none)(hf:C.fns f=some fn)(hw:C.whole f=true)
  (hlen:(first++args++captured).length≤fn.ntmps)
  (h:Does (ev C (Ev.call C n) H.length none fn.body { tm:=tmA fn.ntmps (zipI 0 (first++args++captured) []),df:=[],hp:=H,tc:=[] }) fun e st=>∃ x st',finish C H.length fn e st=some (x,st')∧Left H x st' R):
  CallsTo C (n+1) (.fn (.func f) first captured) args H R:=by
 obtain ⟨e,st,h1,x,st',h2,h3⟩:=h
 unfold CallsTo
 simp only[Ev.call,enter,hx,hxh,hf,hw,cond_true]
 rw[zyu hlen,h1]
 simp only[h2]
 unfold Left at h3
 split at h3
 ·rename_i hb;rw[hb];exact ⟨_,_,_,rfl,h3⟩
 ·rename_i hb
  rw[Bool.not_eq_true] at hb
  rw[hb]
  simp only[cond_false,zea hc]
  exact ⟨_,_,_,rfl,h3⟩
section
variable {C:Cfg} {call:CallF} {pin:Nat} {rd:Option Nat} {Q:AExit→St→Prop} {st:St}
def RgEnd (pin l:Nat)(df:List ADef)(st:St)(Q:AExit→St→Prop):CRes→List AB→List Nat→Prop
 |.ret _,H,tc=>∃ r,H[l]?=some (.loop r)∧r.st≠.busy∧Q (r.pend.getD .normal) { st with df:=df,hp:=H.set l .dead,tc:=tc.filter (·<pin)++st.tc }
 |.pan v,H,tc=>Q (.panic v) { st with df:=df,hp:=H,tc:=tc.filter (·<pin)++st.tc }
theorem zqt {g:Opnd}{ps:List Nat}{as bd:AC}{gf:Nat}{first captured:List AV}(hg:val C st.tm g=.fn (.func gf) first captured)
  (h:∃ x H tc,call (.fn (.func gf) first captured) [.yield (st.hp.length+1)] (st.hp++[.dfr]++[.loop ⟨.ready,none,st.tm,ps,as,bd,st.hp.length⟩])=some (x,H,tc)∧RgEnd pin (st.hp.length+1) (.mark st.hp.length::st.df) st Q x H tc):
  Does (ev C call pin none (.rangeF g ps as bd) st) Q:=by
 obtain ⟨x,H,tc,h1,h2⟩:=h
 unfold Does
 simp only[ev,hg,List.length_append,List.length_cons,List.length_nil,Nat.zero_add]
 rw[h1]
 cases x with
 |ret w=>
  obtain ⟨r,e1,e2,e3⟩:=h2
  simp only[e1,e2,if_false]
  exact ⟨_,_,rfl,e3⟩
 |pan w=>exact ⟨_,_,rfl,h2⟩
end
def RdEnd (l:Nat)(H:List AB)(R:CRes→List AB→List Nat→Prop):AExit→St→Prop
 |.panic _,_=>False
 |.normal,st=>∃ r,st.hp[l]?=some (.loop r)∧R (.ret (.bool true)) (overH H (st.hp.set l (.loop { r with st:=.ready,pend:=none })) (l::st.tc)++(st.hp.set l (.loop { r with st:=.ready,pend:=none })).drop H.length) (l::st.tc)
 |e,st=>∃ r,st.hp[l]?=some (.loop r)∧R (.ret (.bool false)) (overH H (st.hp.set l (.loop { r with st:=.done,pend:=some e })) (l::st.tc)++(st.hp.set l (.loop { r with st:=.done,pend:=some e })).drop H.length) (l::st.tc)
theorem zxg {C:Cfg}{n l:Nat}{args:List AV}{H:List AB}{R:CRes→List AB→List Nat→Prop}{r:ALoop}(hc:C.calm=true)(hl:H[l]?=some (.loop r))(hr:r.st=.ready)(hn:args.length=r.params.length)
  (h : Does (ev C (Ev.call C n) H.length (some l) r.assign { tm := setParams r.tm r.params args, df := [], hp := H, tc := [] }) fun e st => e = .normal ∧ ∃ r1, st.hp[l]? = some (.loop r1) ∧ r1.st = .ready ∧
   Does (ev C (Ev.call C n) H.length (some l) r.body { st with hp:=st.hp.set l (.loop { r1 with st:=.busy }),tc:=l::st.tc }) (RdEnd l H R)):
  CallsTo C (n+1) (.yield l) args H R:=by
 obtain ⟨e,st,h1,rfl,r1,h2,h3,e2,st2,h4,h5⟩:=h
 unfold CallsTo
 simp only[Ev.call,round,hl,hr,hn,and_self,if_true,h1,h2,h3,h4]
 cases e2 with
 |panic v=>exact h5.elim
 |normal=>
  obtain ⟨r2,e1,e2⟩:=h5
  simp only[e1,Option.isNone_none,if_true,zea hc]
  exact ⟨_,_,_,rfl,e2⟩
 |exit i=>
  obtain ⟨r2,e1,e2⟩:=h5
  simp only[e1,Option.isNone_some,Bool.false_eq_true,if_false,zea hc]
  exact ⟨_,_,_,rfl,e2⟩
 |ret=>
  obtain ⟨r2,e1,e2⟩:=h5
  simp only[e1,Option.isNone_some,Bool.false_eq_true,if_false,zea hc]
  exact ⟨_,_,_,rfl,e2⟩
theorem zpw (H hp:List AB)(j:Nat)(tc:List Nat):overH H hp (j::tc)=(overH H hp tc).set j (hp.getD j .dead):=rfl
theorem zbi (H hp:List AB):∀ tc,(overH H hp tc).length=H.length
 |[]=>rfl
 |j::tc=>by simp[overH,zbi H hp tc]
structure Kp (S:List Nat) (H H':List AB):Prop where
 len:H.length≤H'.length
 get:∀ b,b<H.length→b∉S→H'[b]?=H[b]?
theorem Kp.refl (S:List Nat)(H:List AB):Kp S H H:=⟨Nat.le_refl _,fun _ _ _=>rfl⟩
theorem Kp.trans {S:List Nat}{H G K:List AB}(h:Kp S H G)(g:Kp S G K):Kp S H K:=
 ⟨Nat.le_trans h.len g.len,fun b hb hs=>(g.get b (Nat.lt_of_lt_of_le hb h.len) hs).trans (h.get b hb hs)⟩
theorem Kp.mono {S T:List Nat}{H G:List AB}(h:Kp S H G)(hs:∀ b,b<H.length→b∈S→b∈T):Kp T H G:=⟨h.len,fun b hb hn=>h.get b hb fun hh=>hn (hs b hb hh)⟩
theorem Kp.trans2 {S T:List Nat}{H G K:List AB}(h:Kp S H G)(g:Kp T G K):Kp (T.filter (·<H.length)++S) H K:=
 ⟨Nat.le_trans h.len g.len, fun b hb hs => by
  rw[List.mem_append,List.mem_filter,not_or] at hs
  exact (g.get b (Nat.lt_of_lt_of_le hb h.len) fun h'=>hs.1 ⟨h',by simpa using hb⟩).trans (h.get b hb hs.2)⟩
theorem Kp.app {S:List Nat}(H K:List AB):Kp S H (H++K):=⟨by simp,fun b hb _=>List.getElem?_append_left hb⟩
theorem Kp.set {S:List Nat}{H G:List AB}(h:Kp S H G)(i:Nat)(v:AB)(hi:i<H.length→i∈S):Kp S H (G.set i v):=
 ⟨by simpa using h.len, fun b hb hs => by
  rw[List.getElem?_set_ne (fun e=>by subst e;exact hs (hi hb))];exact h.get b hb hs⟩
theorem Kp.pre {S:List Nat}{H K G:List AB}(h:Kp S (H++K) G):Kp S H G:=(Kp.app H K).trans h
theorem get_lt {H:List AB}{b:Nat}{x:AB}(h:H[b]?=some x):b<H.length:=(List.getElem?_eq_some_iff.1 h).1
theorem Kp.at {S:List Nat}{H G:List AB}(h:Kp S H G){b:Nat}{x:AB}(hx:H[b]?=some x)(hb:b∉S):G[b]?=some x:=(h.get b (get_lt hx) hb).trans hx
theorem bk {H:List AB}{b:Nat}{x:AB}(h:H[b]?=some x):b<H.length∧(∀ K,(H++K)[b]?=some x)∧(∀ n,b<H.length+n)∧(∀ K (h:b<(H++K).length),(H++K)[b]'h=x)∧(∀ h:b<H.length,H[b]'h=x):=by
 have hl:=get_lt h
 have h1:∀ K,(H++K)[b]?=some x:=fun K=>(List.getElem?_append_left hl).trans h
 refine ⟨hl,h1,fun n=>by omega,fun K hk=>?_,fun hh=>?_⟩
 ·have:=h1 K;rw[List.getElem?_eq_getElem hk] at this;exact Option.some.inj this
 ·rw[List.getElem?_eq_getElem hh] at h;exact Option.some.inj h
structure Bk (H:List AB) (b:Nat) (x:AB):Prop where
 lt:b<H.length
 get:H[b]?=some x
 app:∀ K,(H++K)[b]?=some x
 lts:∀ n,b<H.length+n
 ix:∀ K (h:b<(H++K).length),(H++K)[b]'h=x
 i0:∀ h:b<H.length,H[b]'h=x
theorem bk' {H:List AB}{b:Nat}{x:AB}(h:H[b]?=some x):Bk H b x:=⟨(bk h).1,h,(bk h).2.1,(bk h).2.2.1,(bk h).2.2.2.1,(bk h).2.2.2.2⟩
structure Lft (H hp:List AB) (tc:List Nat) (H':List AB):Prop where
 len:H.length≤H'.length
 old:∀ j,j<H.length→j∉tc→H'[j]?=H[j]?
 got:∀ j,j<H.length→j∈tc→H'[j]?=hp[j]?
theorem zgf {H hp:List AB}{tc:List Nat}(hlen:H.length≤hp.length)(j:Nat):(overH H hp tc++hp.drop H.length)[j]?=if j<H.length∧j∉tc then H[j]? else hp[j]?:=by
 have main:∀ tc j,(overH H hp tc)[j]?=if j<H.length then (if j∈tc then hp[j]? else H[j]?) else none:=by
  intro tc
  induction tc with
  |nil=>
   intro j
   simp only[overH,List.not_mem_nil,if_false]
   split
   ·rfl
   ·rename_i h;rw[List.getElem?_eq_none (by omega)]
  |cons k tc ih=>
   intro j
   simp only[overH,List.getElem?_set,zbi,List.mem_cons]
   by_cases hkj:k=j
   ·subst hkj
    by_cases hk:k<H.length
    ·simp only[hk,if_true,true_or]
     rw[List.getD_eq_getElem?_getD,List.getElem?_eq_getElem (by omega)];rfl
    ·simp only[hk,if_false,if_true]
   ·have hjk:¬j=k:=fun e=>hkj e.symm
    simp only[hkj,hjk,if_false,ih,false_or]
 rw[List.getElem?_append,zbi]
 by_cases hj:j<H.length
 ·rw[if_pos hj,main,if_pos hj]
  by_cases ht:j∈tc
  ·simp[ht]
  ·simp[ht,hj]
 ·rw[if_neg hj,if_neg (by simp[hj]),List.getElem?_drop]
  congr 1;omega
theorem zyb {H hp:List AB}{tc:List Nat}(hlen:H.length≤hp.length):Lft H hp tc (overH H hp tc++hp.drop H.length):=
 ⟨by simp[zbi],fun j h1 h2=>by rw[zgf hlen,if_pos ⟨h1,h2⟩],fun j h1 h2=>by rw[zgf hlen,if_neg (by simp[h2])]⟩
theorem Lft.kp {H hp:List AB}{tc:List Nat}{H':List AB}(h:Lft H hp tc H'):Kp tc H H':=⟨h.len,h.old⟩
theorem Lft.same {H hp:List AB}{tc:List Nat}{H':List AB}(h:Lft H hp tc H')(k:Kp tc H hp)(j:Nat)(hj:j<H.length):H'[j]?=hp[j]?:=by
 by_cases ht:j∈tc
 ·exact h.got j hj ht
 ·rw[h.old j hj ht,k.get j hj ht]
theorem znl {C:Cfg}{n f:Nat}{fn:AFunc}{first captured args:List AV}{H:List AB}{Q:CRes→List AB→List Nat→Prop}(hc:C.calm=true)(hx:C.ext f=none)(hxh:C.exth f=none)(hf:C.fns f=some fn)(hw:C.whole f=true)
  (hlen:(first++args++captured).length≤fn.ntmps)
  (h:Does (ev C (Ev.call C n) H.length none fn.body { tm:=tmA fn.ntmps (zipI 0 (first++args++captured) []),df:=[],hp:=H,tc:=[] }) fun e st=>∃ x st',finish C H.length fn e st=some (x,st')∧H.length≤st'.hp.length∧Q x st'.hp st'.tc):
  ∃ x hp tc H',Ev.call C (n+1) (.fn (.func f) first captured) args H=some (x,H',tc)∧Q x hp tc∧Lft H hp tc H'∧(refs x.val≠[]∨tc≠[]→H'.length=hp.length∧∀ j,H.length≤j→H'[j]?=hp[j]?)∧(refs x.val=[]→tc=[]→H'=H):=by
 have := yar (n := n) (R := fun x H' tc => ∃ hp, Q x hp tc ∧ Lft H hp tc H' ∧ (refs x.val ≠ [] ∨ tc ≠ [] → H'.length = hp.length ∧ ∀ j, H.length ≤ j → H'[j]? = hp[j]?) ∧ (refs x.val = [] → tc = [] → H' = H)) hc hx hxh hf hw hlen (by
  refine h.mono fun e st ⟨x,st',h1,h2,h3⟩=>⟨x,st',h1,?_⟩
  unfold Left
  split
  ·rename_i hb
   simp only[bareQ,Bool.and_eq_true,List.isEmpty_iff] at hb
   rw[hb.1] at h3
   exact ⟨_,h3,⟨Nat.le_refl _,fun _ _ _=>rfl,fun j _ hj=>by cases hj⟩,fun hr=>hr.elim (absurd hb.2) (absurd rfl),fun _ _=>rfl⟩
  ·rename_i hb
   exact ⟨_,h3,zyb h2,fun _=>⟨by simp[zbi];omega,fun j hj=>by rw[zgf h2,if_neg (by omega)]⟩,fun h1 h2=>absurd (by simp[bareQ,h1,h2]) hb⟩)
 obtain ⟨x,H',tc,h1,hp,h2,h3,h4⟩:=this
 exact ⟨x,hp,tc,H',h1,h2,h3,h4⟩
def Ends (C:Cfg)(pin:Nat)(res:List ARes)(Q:AV→List AB→List Nat→Prop)(e:AExit)(st:St):Prop:=
 (e=.ret∨e=.normal)∧∃ st',runDefs C pin st.df none st=some (none,st')∧pin≤st'.hp.length∧∃ v,(resL st' res).map resV=some v∧Q v st'.hp st'.tc
abbrev Wa (C:Cfg) (call:CallF) (H:List AB) (fn:AFunc) (l:List AV) (Q:AExit→St→Prop):Prop:=Does (ev C call H.length none fn.body { tm:=tmA fn.ntmps (zipI 0 l []),df:=[],hp:=H,tc:=[] }) Q
abbrev Wb (C:Cfg) (call:CallF) (H:List AB) (fn:AFunc) (l:List AV) (Q:AV→List AB→List Nat→Prop):Prop:=Wa C call H fn l (Ends C H.length fn.res Q)
theorem zeo {C:Cfg}{pin:Nat}{fn:AFunc}{Q:AV→List AB→List Nat→Prop}{e:AExit}{st:St}(h:Ends C pin fn.res Q e st):∃ x st',finish C pin fn e st=some (x,st')∧pin≤st'.hp.length∧(∃ v,x=.ret v∧Q v st'.hp st'.tc):=by
 obtain ⟨he,st',h1,h2,v,h3,h4⟩:=h
 refine ⟨.ret v,st',?_,h2,v,rfl,h4⟩
 have : (match runDefs C pin st.df none st with
  |some (none,st)=>(resL st fn.res).map fun vs=>(CRes.ret (resV vs),st)
  |_=>none)=some (.ret v,st'):=by
  rw[h1]
  simp only
  cases hr:resL st' fn.res with
  |none=>rw[hr] at h3;cases h3
  |some vs=>rw[hr] at h3;cases h3;rfl
 rcases he with rfl|rfl<;>exact this
theorem zac {C:Cfg}{pin:Nat}{res:List ARes}{Q:AV→List AB→List Nat→Prop}{e:AExit}{st:St}{v:AV}(he:e=.ret∨e=.normal)(hd:st.df=[])(hl:pin≤st.hp.length)(hr:(resL st res).map resV=some v)(hq:Q v st.hp st.tc):Ends C pin res Q e st:=
 ⟨he,st,by rw[hd];rfl,hl,v,hr,hq⟩
theorem zpv {C:Cfg}{pin:Nat}{fn:AFunc}{v:AV}{st:St}(hd:st.df=[]):finish C pin fn (.panic v) st=some (.pan v,st):=by
 show (match runDefs C pin st.df (some v) st with
  |some (none,st)=>(resL st fn.res).map fun vs=>(CRes.ret (resV vs),st)
  |some (some v,st)=>some (.pan v,st)
  |none=>none)=_
 rw[hd];rfl
theorem zbm {C:Cfg}{n f:Nat}{fn:AFunc}{first captured args:List AV}{H:List AB}{Q:AV→List AB→List Nat→Prop}(hc:C.calm=true)(hx:C.ext f=none)(hxh:C.exth f=none)(hf:C.fns f=some fn)(hw:C.whole f=true)
  (hlen:(first++args++captured).length≤fn.ntmps)
  (h:Does (ev C (Ev.call C n) H.length none fn.body { tm:=tmA fn.ntmps (zipI 0 (first++args++captured) []),df:=[],hp:=H,tc:=[] }) (Ends C H.length fn.res Q)):
  ∃ v hp tc H',Ev.call C (n+1) (.fn (.func f) first captured) args H=some (.ret v,H',tc)∧Q v hp tc∧Lft H hp tc H'∧(refs v≠[]∨tc≠[]→H'.length=hp.length∧∀ j,H.length≤j→H'[j]?=hp[j]?)∧(refs v=[]→tc=[]→H'=H):=by
 obtain ⟨x,hp,tc,H',h1,⟨v,rfl,h2⟩,h3,h4⟩:=znl (Q:=fun x hp tc=>∃ v,x=.ret v∧Q v hp tc) hc hx hxh hf hw hlen (h.mono fun e st he=>zeo he)
 exact ⟨v,hp,tc,H',h1,h2,h3,h4⟩
structure Rnd (H hp:List AB) (tc:List Nat) (l:Nat) (r:ALoop) (H':List AB):Prop where
 len:H.length≤H'.length
 here:H'[l]?=some (.loop r)
 old:∀ j,j<H.length→j∉tc→j≠l→H'[j]?=H[j]?
 got:∀ j,j<H.length→j∈tc→j≠l→H'[j]?=hp[j]?
 new:∀ j,H.length≤j→H'[j]?=hp[j]?
theorem zok {C:Cfg}{n l:Nat}{args:List AV}{H:List AB}{r:ALoop}{Q:AExit→List AB→List Nat→Prop}(hc:C.calm=true)(hl:H[l]?=some (.loop r))(hr:r.st=.ready)(hpd:r.pend=none)(hn:args.length=r.params.length)
  (h : Does (ev C (Ev.call C n) H.length (some l) r.assign { tm := setParams r.tm r.params args, df := [], hp := H, tc := [] }) fun e st => e = .normal ∧ st.hp[l]? = some (.loop r) ∧
   Does (ev C (Ev.call C n) H.length (some l) r.body { st with hp:=st.hp.set l (.loop { r with st:=.busy }),tc:=l::st.tc }) fun e st=>(∀ v,e≠.panic v)∧st.hp[l]?=some (.loop { r with st:=.busy })∧H.length≤st.hp.length∧Q e st.hp st.tc):
  ∃ b e hp tc H',Ev.call C (n+1) (.yield l) args H=some (.ret (.bool b),H',l::tc)∧(b=true↔e=.normal)∧Q e hp tc∧Rnd H hp tc l (if b then r else { r with st:=.done,pend:=some e }) H':=by
 have key:∀ (st:St) (x:AB),H.length≤st.hp.length→∀ j,(overH H (st.hp.set l x) (l::st.tc)++(st.hp.set l x).drop H.length)[j]?=if j<H.length∧j∉l::st.tc then H[j]? else (st.hp.set l x)[j]?:=fun st x hl j=>zgf (by simpa using hl) j
 have hll:=get_lt hl
 have fin : ∀ (st : St) (r' : ALoop), H.length ≤ st.hp.length → Rnd H st.hp st.tc l r' (overH H (st.hp.set l (.loop r')) (l :: st.tc) ++ (st.hp.set l (.loop r')).drop H.length) := fun st r' hlen => {
  len:=by simp[zbi]
  here:=by rw[key _ _ hlen,if_neg (by simp),List.getElem?_set_self (by omega)]
  old:=fun j h1 h2 h3=>by rw[key _ _ hlen,if_pos ⟨h1,by simp[h2,h3]⟩]
  got:=fun j h1 h2 h3=>by rw[key _ _ hlen,if_neg (by simp[h2]),List.getElem?_set_ne (by omega)]
  new:=fun j h1=>by rw[key _ _ hlen,if_neg (by omega),List.getElem?_set_ne (by omega)] }
 have := zxg (n := n) (R := fun x H' tc => ∃ b e hp tc', x = .ret (.bool b) ∧ tc = l :: tc' ∧ (b = true ↔ e = .normal) ∧ Q e hp tc' ∧ Rnd H hp tc' l (if b then r else { r with st := .done, pend := some e }) H') hc hl hr hn (h.mono fun e st ⟨h1, h2, h3⟩ => ⟨h1, r, h2, hr, h3.mono fun e st ⟨h4, h5, h6, h7⟩ => by
  have back:({ { r with st:=.busy } with st:=.ready,pend:=none }:ALoop)=r:=by
   obtain ⟨a,b,c,d,e,f,g⟩:=r
   simp only at hr hpd;subst hr hpd;rfl
  cases e with
  |panic v=>exact absurd rfl (h4 v)
  |normal=>
   refine ⟨_,h5,true,.normal,st.hp,st.tc,rfl,rfl,by simp,h7,?_⟩
   rw[back]
   exact fin st r h6
  |exit i=>
   exact ⟨_,h5,false,.exit i,st.hp,st.tc,rfl,rfl,by simp,h7,fin st _ h6⟩
  |ret=>
   exact ⟨_,h5,false,.ret,st.hp,st.tc,rfl,rfl,by simp,h7,fin st _ h6⟩⟩)
 obtain ⟨x,H',tc,h1,b,e,hp,tc',rfl,rfl,h2,h3,h4⟩:=this
 exact ⟨b,e,hp,tc',H',h1,h2,h3,h4⟩
theorem zav (d:Nat):(0≤(d:Int)+1)=True:=by simp;omega
theorem ge_of {α:Type}{l:List α}{i:Nat}{x:α}(h:l[i]?=some x):∀ h':i<l.length,l[i]'h'=x:=fun h'=>by rw[List.getElem?_eq_getElem h'] at h;exact Option.some.inj h
theorem zan {C:Cfg}(hC:C.calm=true){call:CallF}{pin:Nat}{rd:Option Nat}{Q:AExit→St→Prop}{st:St}{c:AC}{live:List Nat}(n:Nat)(hn:n<fuelL)(P:Nat→St→Prop)(h0:P 0 { st with tm:=keepT live st.tm })
  (hround:∀ i st,i<n→P i st→Does (ev C call pin rd c st) (fun e st'=>match e with|.normal=>P (i+1) { st' with tm:=keepT live st'.tm }|e=>Q e st'))
  (hend:∀ st,P n st→Does (ev C call pin rd c st) (fun e st'=>match e with|.normal=>False|e=>Q e st')):Does (ev C call pin rd (.loop live c) st) Q:=by
 refine zhe (fun q st=>q≤n∧P (n - q) st) n hn ⟨Nat.le_refl _,by rw[zdj hC,Nat.sub_self];exact h0⟩ ?_
 rintro q st ⟨hq,hP⟩
 by_cases h:q=0
 ·subst h
  refine (hend st hP).mono fun e st' h=>?_
  cases e with
  |normal=>exact h.elim
  |exit i=>exact h
  |ret=>exact h
  |panic v=>exact h
 ·refine (hround (n - q) st (by omega) hP).mono fun e st' h'=>?_
  cases e with
  |normal=>
   refine ⟨q - 1,by omega,by omega,?_⟩
   rw[zdj hC,show n - (q - 1)=n - q+1 by omega]
   exact h'
  |exit i=>exact h'
  |ret=>exact h'
  |panic v=>exact h'
theorem st_is {st:St}{tm:List AV}{df:List ADef}{hp:List AB}{tc:List Nat}(h1:st.tm=tm)(h2:st.df=df)(h3:st.hp=hp)(h4:st.tc=tc):st=⟨tm,df,hp,tc⟩:=by
 subst h1 h2 h3 h4;rfl
structure YieldsV {α:Type} (call:CallF) (l n0:Nat) (T:List Nat) (arg:α→AV→List AB→Prop) (R:AV→List Nat) (L:List α) (S:List Nat) (U:List AB→Prop) (J:List α→List Nat→List AB→Prop) (E:List α→List AB→Prop) (M:List α→Nat→Prop):Prop where
 stable:∀ d W H H',J d W H→(∀ j,j<H.length→j<n0∨j∈W→j∉S→H'[j]?=H[j]?)→U H'→J d W H'
 stableE:∀ d H H',E d H→(∀ j,j<n0→H'[j]?=H[j]?)→E d H'
 step:∀ d s W H v,d++[s] <+: L→J d W H→arg s v H→(∀ j∈R v,n0≤j)→∃ b H' tc W',call (.yield l) [v] H=some (.ret (.bool b),H',tc)∧l∈tc∧(∀ j∈tc,j∈T++W)∧Kp tc H H'∧(∀ j∈W',j∈W∨H.length≤j∨j∈R v)∧(b=true→J (d++[s]) W' H')∧(b=false→E (d++[s]) H'∧U H')∧(∀ j,j<n0→M (d++[s]) j→M d j∨j∈tc)
structure Yields {α:Type} (call:CallF) (l n0:Nat) (T:List Nat) (arg:α→AV) (L:List α) (S:List Nat) (U:List AB→Prop) (J:List α→List Nat→List AB→Prop) (E:List α→List AB→Prop) (M:List α→Nat→Prop):Prop where
 stable:∀ d W H H',J d W H→(∀ j,j<H.length→j<n0∨j∈W→j∉S→H'[j]?=H[j]?)→U H'→J d W H'
 stableE:∀ d H H',E d H→(∀ j,j<n0→H'[j]?=H[j]?)→E d H'
 step:∀ d s W H,d++[s] <+: L→J d W H→∃ b H' tc W',call (.yield l) [arg s] H=some (.ret (.bool b),H',tc)∧l∈tc∧(∀ j∈tc,j∈T++W)∧Kp tc H H'∧(∀ j∈W',j∈W∨H.length≤j)∧(b=true→J (d++[s]) W' H')∧(b=false→E (d++[s]) H'∧U H')∧(∀ j,j<n0→M (d++[s]) j→M d j∨j∈tc)
theorem Rnd.same {H hp:List AB}{tc:List Nat}{l:Nat}{r:ALoop}{H':List AB}(h:Rnd H hp tc l r H')(k:Kp tc H hp)(j:Nat)(hj:j≠l):H'[j]?=hp[j]?:=by
 by_cases hl:j<H.length
 ·by_cases ht:j∈tc
  ·exact h.got j hl ht hj
  ·rw[h.old j hl ht hj,k.get j hl ht]
 ·exact h.new j (by omega)
theorem Rnd.kp {H hp : List AB} {tc : List Nat} {l : Nat} {r : ALoop} {H' : List AB} (h : Rnd H hp tc l r H') : Kp (l :: tc) H H' := ⟨h.len, fun b hb hs => by
 simp only[List.mem_cons,not_or] at hs
 exact h.old b hb hs.2 hs.1⟩
theorem setP1 (N t:Nat)(v:AV)(l:List (Nat × AV)):setParams (tmA N l) [t] [v]=tmA N ((t,v)::l):=rfl
theorem zbn {C:Cfg}{pin D:Nat}{res:List ARes}{Q:AV→List AB→List Nat→Prop}{e:AExit}{st:St}{v:AV}(he:e=.ret∨e=.normal)(hd:st.df=[.mark D])(hD:st.hp[D]?=some .dfr)(hp:pin≤D)(hl:pin≤st.hp.length)(hr:(resL { st with hp:=st.hp.set D .dead } res).map resV=some v)(hq:Q v (st.hp.set D .dead) st.tc):Ends C pin res Q e st:=by
 refine ⟨he,{ st with hp:=st.hp.set D .dead },?_,by simpa using hl,v,hr,hq⟩
 conv=>lhs;rw[hd]
 have:¬ D<pin:=by omega
 simp only[runDefs,hD,List.filter_cons,List.filter_nil,this,decide_false,Bool.false_eq_true,if_false,List.nil_append]
theorem zkx {C:Cfg}{call:CallF}{pin:Nat}{Q:AExit→St→Prop}{st:St}{g:Opnd}{ps:List Nat}{as bd:AC}{gf:Nat}{first captured:List AV}(hg:val C st.tm g=.fn (.func gf) first captured)
  (h:∀ r:ALoop,r=⟨.ready,none,st.tm,ps,as,bd,st.hp.length⟩→∃ x H tc,call (.fn (.func gf) first captured) [.yield (st.hp.length+1)] (st.hp++[.dfr,.loop r])=some (x,H,tc)∧RgEnd pin (st.hp.length+1) (.mark st.hp.length::st.df) st Q x H tc):
  Does (ev C call pin none (.rangeF g ps as bd) st) Q:=by
 refine zqt hg ?_
 have:=h _ rfl
 rw[List.append_assoc]
 exact this
def IterV {α:Type}(C:Cfg)(n m:Nat)(gf:Nat)(first captured:List AV)(arg:α→AV→List AB→Prop)(R:AV→List Nat)(B:Prop)(L:List α)(S:List Nat)(Y:List AB→Prop)(pre:List AB→List Nat→Prop):Prop:=
 ∀ (H:List AB) (l:Nat) (T:List Nat) (J:List α→List Nat→List AB→Prop) (E:List α→List AB→Prop) (M:List α→Nat→Prop),pre H T→(∀ j∈T,j<H.length)→l∈T→J [] [] H→(∀ d W G,J d W G→Y G)→(∀ j,¬ M [] j)→(B→∀ d W G,J d W G→∀ j∈W,j<G.length)→YieldsV (Ev.call C n) l H.length T arg R L S Y J E M →
  ∃ H' tc,Ev.call C m (.fn (.func gf) first captured) [.yield l] H=some (.ret (.tup []),H',tc)∧(∀ j∈tc,j∈S++T)∧Kp tc H H'∧((∃ W,(∀ j∈W,H.length≤j)∧J L W H'∧∀ j,j<H.length→M L j→j∈tc)∨∃ d,d <+: L∧E d H'∧∀ j,j<H.length→M d j→j∈tc)
def IterG {α:Type}(C:Cfg)(n m:Nat)(gf:Nat)(first captured:List AV)(arg:α→AV)(L:List α)(S:List Nat)(Y:List AB→Prop)(pre:List AB→List Nat→Prop):Prop:=
 ∀ (H:List AB) (l:Nat) (T:List Nat) (J:List α→List Nat→List AB→Prop) (E:List α→List AB→Prop) (M:List α→Nat→Prop),pre H T→(∀ j∈T,j<H.length)→l∈T→J [] [] H→(∀ d W G,J d W G→Y G)→(∀ j,¬ M [] j)→Yields (Ev.call C n) l H.length T arg L S Y J E M →
  ∃ H' tc,Ev.call C m (.fn (.func gf) first captured) [.yield l] H=some (.ret (.tup []),H',tc)∧(∀ j∈tc,j∈S++T)∧Kp tc H H'∧((∃ W,(∀ j∈W,H.length≤j)∧J L W H'∧∀ j,j<H.length→M L j→j∈tc)∨∃ d,d <+: L∧E d H'∧∀ j,j<H.length→M d j→j∈tc)
theorem IterG.v {α:Type}{C:Cfg}{n m gf:Nat}{first captured:List AV}{arg:α→AV}{L:List α}{S:List Nat}{Y:List AB→Prop}{pre:List AB→List Nat→Prop}(h:IterG C n m gf first captured arg L S Y pre):IterV C n m gf first captured (fun s v _=>v=arg s) (fun _=>[]) False L S Y pre:=
 fun H l T J E M h1 h2 h3 h4 h5 h6 _ hy => h H l T J E M h1 h2 h3 h4 h5 h6 ⟨hy.stable, hy.stableE, fun d s W G hp hj => by
  obtain ⟨b,H',tc,W',g1,g2,g3,g4,g5,g6⟩:=hy.step d s W G (arg s) hp hj rfl (by simp)
  exact ⟨b,H',tc,W',g1,g2,g3,g4,fun j hj=>(g5 j hj).imp id fun h=>h.resolve_right (by simp),g6⟩⟩
theorem lft_eq {H hp:List AB}{tc:List Nat}{H':List AB}{v:AV}(h:Lft H hp tc H')(k:Kp tc H hp)(n:refs v≠[]∨tc≠[]→H'.length=hp.length∧∀ j,H.length≤j→H'[j]?=hp[j]?)(hn:refs v≠[]∨tc≠[]):H'=hp:=by
 obtain ⟨_,n2⟩:=n hn
 refine List.ext_getElem? fun j=>?_
 by_cases hj:j<H.length
 ·exact h.same k j hj
 ·exact n2 j (by omega)
theorem zez {α:Type}{C:Cfg}{k n gf:Nat}{fn:AFunc}{first captured:List AV}{arg:α→AV}{L:List α}{S:List Nat}{Y:List AB→Prop}{pre:List AB→List Nat→Prop}(hc:C.calm=true)(hx:C.ext gf=none)(hxh:C.exth gf=none)(hf:C.fns gf=some fn)(hw:C.whole gf=true)(hlen:first.length+1+captured.length≤fn.ntmps)
  (h : ∀ (H : List AB) (l : Nat) (T : List Nat) (J : List α → List Nat → List AB → Prop) (E : List α → List AB → Prop) (M : List α → Nat → Prop), pre H T → (∀ j ∈ T, j < H.length) → l ∈ T → J [] [] H → (∀ d W G, J d W G → Y G) → (∀ j, ¬ M [] j) → Yields (Ev.call C k) l H.length T arg L S Y J E M →
   Does (ev C (Ev.call C n) H.length none fn.body { tm:=tmA fn.ntmps (zipI 0 (first++[.yield l]++captured) []),df:=[],hp:=H,tc:=[] })
    (Ends C H.length fn.res fun v hp tc=>v=.tup []∧(∀ j∈tc,j∈S++T)∧Kp tc H hp∧((∃ W,(∀ j∈W,H.length≤j)∧J L W hp∧(L=[]∨l∈tc)∧∀ j,j<H.length→M L j→j∈tc)∨∃ d,d <+: L∧E d hp∧l∈tc∧∀ j,j<H.length→M d j→j∈tc))):IterG C k (n+1) gf first captured arg L S Y pre:=by
 intro H l T J E M h1 h2 h3 h4 h5 h7 h6
 obtain ⟨v,hp,tc,H',c1,⟨rfl,c2,c3,c4⟩,c5,c6,c7⟩:=zbm hc hx hxh hf hw (by simp;omega) (h H l T J E M h1 h2 h3 h4 h5 h7 h6)
 refine ⟨H',tc,c1,c2,c5.same c3 |> fun hs=>⟨c5.len,fun b hb ht=>(hs b hb).trans (c3.get b hb ht)⟩,?_⟩
 rcases c4 with ⟨W,w1,w2,w3,w4⟩|⟨d,d1,d2,d3,d4⟩
 ·rcases w3 with w3|w3
  ·by_cases ht:tc=[]
   ·rw[c7 rfl ht];subst w3;exact .inl ⟨[],by simp,h4,fun j _ hj=>absurd hj (h7 j)⟩
   ·rw[lft_eq c5 c3 c6 (.inr ht)];exact .inl ⟨W,w1,w2,w4⟩
  ·rw[lft_eq c5 c3 c6 (.inr (by intro h;rw[h] at w3;cases w3))];exact .inl ⟨W,w1,w2,w4⟩
 ·rw[lft_eq c5 c3 c6 (.inr (by intro h;rw[h] at d3;cases d3))];exact .inr ⟨d,d1,d2,d4⟩
def RoundTo {α:Type}(l:Nat)(rz:ALoop)(T S W Rv:List Nat)(Y:List AB→Prop)(G:List AB)(J:List Nat→List AB→Prop)(E:AExit→List AB→Prop)(_a:Option α)(M M':Nat→Prop)(e:AExit)(st:St):Prop:=
 (∀ v,e≠.panic v)∧st.hp[l]?=some (.loop rz)∧G.length≤st.hp.length∧(∀ j∈st.tc,j=l∨j∈T∨j∈S∨j∈W)∧Kp st.tc G st.hp∧Y st.hp∧(e=.normal→∃ W',(∀ j∈W',j∈W∨G.length≤j∨j∈Rv)∧J W' st.hp)∧(e≠.normal→E e st.hp)∧∀ j,j<l+1→M' j→M j∨j∈st.tc
theorem yfq {α:Type}{C:Cfg}(hC:C.calm=true){n m gf:Nat}{first captured:List AV}{arg:α→AV→List AB→Prop}{R:AV→List Nat}{B:Prop}{L:List α}{S:List Nat}{Y:List AB→Prop}{pre:List AB→List Nat→Prop}(hI:IterV C (n+1) m gf first captured arg R B L S Y pre)
  {pin:Nat} {st:St} {g:Opnd} {ps:List Nat} {as bd:AC} {Q:AExit→St→Prop} (hg:val C st.tm g=.fn (.func gf) first captured) (hps:ps.length=1) (T:List Nat) (hT:∀ j∈T,j<st.hp.length) (hS:∀ j∈S,j<st.hp.length)
  (J:List α→List Nat→List AB→Prop) (E:AExit→List α→List AB→Prop) (M:List α→Nat→Prop) (hM:∀ j,¬ M [] j) (hB:B→∀ d W G,J d W G→∀ j∈W,j<G.length)
  (hpre:∀ r:ALoop,pre (st.hp++[.dfr,.loop r]) ((st.hp.length+1)::(T++S)))
  (hYs:∀ G G',Y G→(∀ j,j<st.hp.length+2→j≠st.hp.length+1→G'[j]?=G[j]?)→Y G')
  (hJ0:∀ r:ALoop,J [] [] (st.hp++[.dfr,.loop r])) (hY0:∀ r:ALoop,Y (st.hp++[.dfr,.loop r]))
  (hJs:∀ d W G G',J d W G→(∀ j∈W,st.hp.length+2≤j)→(∀ j,j<G.length→j<st.hp.length+2∨j∈W→j∉S→j≠st.hp.length+1→G'[j]?=G[j]?)→J d W G')
  (hEs:∀ e d G G',E e d G→(∀ j,j<st.hp.length+2→j≠st.hp.length+1→G'[j]?=G[j]?)→E e d G')
  (hround : ∀ d s W G rz v, arg s v G → (∀ j ∈ R v, st.hp.length + 2 ≤ j) → d ++ [s] <+: L → J d W G → Y G → st.hp.length + 2 ≤ G.length → (∀ j ∈ W, st.hp.length + 2 ≤ j) →
   Does (ev C (Ev.call C n) G.length (some (st.hp.length+1)) as { tm:=setParams st.tm ps [v],df:=[],hp:=G,tc:=[] }) fun e st1=>e=.normal∧st1.hp[st.hp.length+1]?=G[st.hp.length+1]? ∧
    Does (ev C (Ev.call C n) G.length (some (st.hp.length+1)) bd { st1 with hp:=st1.hp.set (st.hp.length+1) (.loop rz),tc:=(st.hp.length+1)::st1.tc }) (RoundTo (st.hp.length+1) rz T S W (R v) Y G (J (d++[s])) (fun e=>E e (d++[s])) (some s) (M d) (M (d++[s]))))
  (hQ:∀ H' tc W,(∀ j∈tc,j<st.hp.length→j∈S++T)→Kp tc st.hp H'→Y H'→H'[st.hp.length]?=some .dfr→st.hp.length+2≤H'.length→(∀ j∈W,st.hp.length+2≤j)→J L W H'→(∀ j,j<st.hp.length→M L j→j∈tc)→Q .normal { st with df:=.mark st.hp.length::st.df,hp:=H',tc:=tc.filter (·<pin)++st.tc })
  (hE:∀ e d H' tc,e≠.normal→(∀ j∈tc,j<st.hp.length→j∈S++T)→Kp tc st.hp H'→Y H'→H'[st.hp.length]?=some .dfr→st.hp.length+2≤H'.length→d <+: L→E e d H'→(∀ j,j<st.hp.length→M d j→j∈tc)→Q e { st with df:=.mark st.hp.length::st.df,hp:=H',tc:=tc.filter (·<pin)++st.tc }):
  Does (ev C (Ev.call C m) pin none (.rangeF g ps as bd) st) Q:=by
 refine zkx hg fun r hr=>?_
 have ra:=congrArg ALoop.assign hr
 have rb:=congrArg ALoop.body hr
 have rt:=congrArg ALoop.tm hr
 have rp:=congrArg ALoop.params hr
 have rs:=congrArg ALoop.st hr
 have rq:=congrArg ALoop.pend hr
 clear hr
 simp only at ra rb rt rp rs rq
 have hlen0:(st.hp++[.dfr,.loop r]:List AB).length=st.hp.length+2:=by simp
 have hstep:YieldsV (Ev.call C (n+1)) (st.hp.length+1) (st.hp++[.dfr,.loop r]:List AB).length ((st.hp.length+1)::(T++S)) arg R L S Y
   (fun d W G=>J d W G∧Y G∧G[st.hp.length+1]?=some (.loop r)∧G[st.hp.length]?=some .dfr∧∀ j∈W,st.hp.length+2≤j)
   (fun d G=>∃ e,e≠.normal∧E e d G∧G[st.hp.length+1]?=some (.loop { r with st:=.done,pend:=some e })∧G[st.hp.length]?=some .dfr∧Y G) M:=by
  rw[hlen0]
  refine ⟨fun d W G G' ⟨h1,h2,h3,h4,h5⟩ k hy=>⟨hJs d W G G' h1 h5 fun j hj hw hs _=>k j hj hw hs,hy,(k _ (get_lt h3) (.inl (by omega)) fun h=>by have:=hS _ h;omega).trans h3,(k _ (get_lt h4) (.inl (by omega)) fun h=>by have:=hS _ h;omega).trans h4,h5⟩,fun d G G' ⟨e,g0,g1,g2,g3,g4⟩ k=>⟨e,g0,hEs _ _ _ _ g1 fun j hj _=>k j hj,(k _ (by omega)).trans g2,(k _ (by omega)).trans g3,hYs _ _ g4 fun j hj _=>k j hj⟩,?_⟩
  rintro d s W G v hpr ⟨h1,h2,h3,h4,h5⟩ hv hrv
  have hGl:=get_lt h3
  obtain ⟨b,e,hp,tc,H',c1,c2,⟨c3,c4,c5,c6,c7,c8,c10⟩,c9⟩:=zok (C:=C) (n:=n) (l:=st.hp.length+1) (args:=[v]) (H:=G) (r:=r)
   (Q := fun e hp tc => (∀ v, e ≠ .panic v) ∧ (∀ j ∈ tc, j = st.hp.length + 1 ∨ j ∈ T ∨ j ∈ S ∨ j ∈ W) ∧ Kp tc G hp ∧ Y hp ∧ (e = .normal → ∃ W', (∀ j ∈ W', j ∈ W ∨ G.length ≤ j ∨ j ∈ R v) ∧ J (d ++ [s]) W' hp) ∧ (e ≠ .normal → E e (d ++ [s]) hp) ∧ ∀ j, j < st.hp.length + 2 → M (d ++ [s]) j → M d j ∨ j ∈ tc) hC h3 rs rq (by rw [rp]; simp [hps]) (by
    have:=hround d s W G { r with st:=.busy } v hv hrv hpr h1 h2 (by omega) h5
    rw[← ra,← rb,← rt,← rp] at this
    refine this.mono fun e st1 ⟨g1,g2,g3⟩=>⟨g1,g2.trans h3,g3.mono fun e st2 ⟨k1,k2,k3,k4,k5,k6,k7,k8,k9⟩=>⟨k1,k2,k3,k1,k4,k5,k6,k7,k8,k9⟩⟩)
  have hsm:=c9.same c5
  have hd:H'[st.hp.length]?=some .dfr:=by
   rw[hsm _ (by omega),c5.get _ (by omega) (fun h=>?_),h4]
   rcases c4 _ h with h|h|h|h
   ·omega
   ·have:=hT _ h;omega
   ·have:=hS _ h;omega
   ·have:=h5 _ h;omega
  have hl9:st.hp.length+1∈(st.hp.length+1)::tc:=by simp
  have hall:∀ j∈(st.hp.length+1)::tc,j∈(st.hp.length+1)::(T++S)++W:=by
   intro j hj
   simp only[List.cons_append,List.append_assoc,List.mem_cons,List.mem_append]
   rcases List.mem_cons.1 hj with h|h
   ·exact .inl h
   ·rcases c4 j h with h|h|h|h
    ·exact .inl h
    ·exact .inr (.inl h)
    ·exact .inr (.inr (.inl h))
    ·exact .inr (.inr (.inr h))
  have c11:∀ j,j<st.hp.length+2→M (d++[s]) j→M d j∨j∈(st.hp.length+1)::tc:=fun j hl hj=>(c10 j hl hj).imp id (List.mem_cons_of_mem _)
  by_cases he:e=.normal
  ·have hb:=c2.2 he
   obtain ⟨W',w1,w2⟩:=c7 he
   subst hb
   rw[if_pos rfl] at c9
   refine ⟨true,H',_,W',c1,hl9,hall,c9.kp,w1,fun _=>⟨hJs _ _ _ _ w2 (fun j hj=>(w1 j hj).elim (h5 j) fun h=>h.elim (fun h=>by omega) (hrv j)) fun j _ _ _ hj=>hsm j hj,hYs _ _ c6 fun j _ hj=>hsm j hj,c9.here,hd,fun j hj=>?_⟩,(fun h=>by cases h),c11⟩
   rcases w1 j hj with h|h|h
   ·exact h5 j h
   ·omega
   ·exact hrv j h
  ·have hb:b=false:=by
    cases b with
    |false=>rfl
    |true=>exact absurd (c2.1 rfl) he
   subst hb
   rw[if_neg (by decide)] at c9
   exact ⟨false,H',_,[],c1,hl9,hall,c9.kp,by simp,(fun h=>by cases h),fun _=>⟨⟨e,he,hEs _ _ _ _ (c8 he) (fun j _ hj=>hsm j hj),c9.here,hd,hYs _ _ c6 fun j _ hj=>hsm j hj⟩,hYs _ _ c6 fun j _ hj=>hsm j hj⟩,c11⟩
 obtain ⟨H2, tc, c1, c2, c3, c4⟩ := hI (st.hp ++ [.dfr, .loop r]) (st.hp.length + 1) ((st.hp.length + 1) :: (T ++ S)) _ _ M (hpre r) (by
  intro j hj
  rw[hlen0]
  rcases List.mem_cons.1 hj with h|h
  ·omega
  ·rcases List.mem_append.1 h with h|h
   ·have:=hT j h;omega
   ·have:=hS j h;omega) (by simp) ⟨hJ0 r,hY0 r,by simp,by simp,by simp⟩ (fun d W G h=>h.2.1) hM (fun hb d W G h=>hB hb d W G h.1) hstep
 refine ⟨_,H2,tc,c1,?_⟩
 have hlen2:st.hp.length+2≤H2.length:=by have:=c3.len;rw[hlen0] at this;exact this
 have hk : Kp tc st.hp (H2.set (st.hp.length + 1) .dead) := ⟨by simp; omega, fun b hb ht => by
  rw[List.getElem?_set_ne (by omega)];exact c3.pre.get b hb ht⟩
 have htc:∀ j∈tc,j<st.hp.length→j∈S++T:=by
  intro j hj hl
  rcases List.mem_append.1 (c2 j hj) with h|h
  ·exact List.mem_append_left _ h
  ·rcases List.mem_cons.1 h with h|h
   ·omega
   ·exact List.mem_append.2 (List.mem_append.1 h).symm
 have hset:∀ j,j≠st.hp.length+1→(H2.set (st.hp.length+1) .dead)[j]?=H2[j]?:=fun j hj=>by rw[List.getElem?_set_ne (by omega)]
 rw[hlen0] at c4
 rcases c4 with ⟨W,w1,⟨h1,h2,h3,h4,h5⟩,h6⟩|⟨d,d1,⟨e,h0,h1,h2,h3,h4⟩,h6⟩
 ·refine ⟨r,h3,by rw[rs];simp,?_⟩
  rw[rq]
  exact hQ _ tc W htc hk (hYs _ _ h2 fun j _ hj=>hset j hj) ((hset _ (by omega)).trans h4) (by simp;omega) h5 (hJs _ _ _ _ h1 h5 fun j _ _ _ hj=>hset j hj) fun j hj hm=>h6 j (by omega) hm
 ·refine ⟨_,h2,by simp,?_⟩
  exact hE e d _ tc h0 htc hk (hYs _ _ h4 fun j _ hj=>hset j hj) ((hset _ (by omega)).trans h3) (by simp;omega) d1 (hEs _ _ _ _ h1 fun j _ hj=>hset j hj) fun j hj hm=>h6 j (by omega) hm
end Ev
namespace Clm
structure Sp where
 lo:Int
 hi:Int
 deriving DecidableEq,Inhabited
structure Pl where
 long:Sp
 wide:Sp
 high:Sp
 deriving DecidableEq,Inhabited
structure Evt where
 kind:Int
 clamp:Int
 sods:Sp
 deriving DecidableEq,Inhabited
structure Cl where
 piles:List Pl
 pack:Sp
 events:List Evt
def Sp.no:Sp:=⟨1,0⟩
def Sp.some (k:Sp):Bool:=decide (k.lo≤k.hi)
def Sp.both (k o:Sp):Sp:=if max k.lo o.lo > min k.hi o.hi then Sp.no else ⟨max k.lo o.lo,min k.hi o.hi⟩
def Sp.either (k o:Sp):Sp:=⟨min k.lo o.lo,max k.hi o.hi⟩
inductive Bf where
 |nil
 |sale (s:Sp)
 |count (s:Sp)
def Bf.after:Bf→Sp→Sp
 |.nil,k=>k
 |.sale s,k=>if k.some=false∨k.hi<s.lo then Sp.no else ⟨max 0 (k.lo - s.hi),k.hi - s.lo⟩
 |.count s,k=>k.both s
def Bf.before:Bf→Sp→Sp
 |.nil,k=>k
 |.sale s,k=>if k.some=false then Sp.no else ⟨k.lo+s.lo,k.hi+s.hi⟩
 |.count s,k=>k.both s
def logs:List Bf→Sp→List Sp
 |[],k=>[k]
 |e::l,k=>k.both (e.before ((logs l (e.after k)).headD Sp.no))::logs l (e.after k)
def Goes:List Bf→Int→Int→Prop
 |[],x,y=>y=x
 |.nil::l,x,y=>Goes l x y
 |.sale s::l,x,y=>∃ k,s.lo≤k∧k≤s.hi∧k≤x∧Goes l (x - k) y
 |.count s::l,x,y=>s.lo≤x∧x≤s.hi∧Goes l x y
def Sp.has (k:Sp)(x:Int):Prop:=k.lo≤x∧x≤k.hi
def Bf.fine:Bf→Prop
 |.sale s=>0≤s.lo∧s.lo≤s.hi
 |_=>True
theorem has_no (x:Int):¬ Sp.no.has x:=by simp only[Sp.has,Sp.no];omega
theorem some_iff (k:Sp):k.some=true↔k.lo≤k.hi:=by simp[Sp.some]
theorem zxd (k:Sp):k.some=true↔∃ x,k.has x:=by
 rw[some_iff];exact ⟨fun h=>⟨k.lo,by simp[Sp.has];omega⟩,fun ⟨x,h⟩=>by simp only[Sp.has] at h;omega⟩
theorem zgh (k o:Sp)(x:Int):(k.both o).has x↔k.has x∧o.has x:=by
 unfold Sp.both
 split
 ·simp only[Sp.has,Sp.no];omega
 ·simp only[Sp.has];omega
theorem zva (e:Bf)(h:e.fine)(k:Sp)(_hk:0≤k.lo)(y:Int):(e.after k).has y↔∃ x,k.has x∧Goes [e] x y:=by
 cases e with
 |nil=>simp[Bf.after,Goes]
 |count s=>
  simp only[Bf.after,zgh,Goes]
  simp only[Sp.has]
  exact ⟨fun h=>⟨y,h.1,h.2.1,h.2.2,rfl⟩,fun ⟨x,h1,h2,h3,h4⟩=>by subst h4;exact ⟨h1,h2,h3⟩⟩
 |sale s=>
  simp only[Bf.fine] at h
  simp only[Bf.after,Goes]
  by_cases hn:k.some=false∨k.hi<s.lo
  ·rw[if_pos hn]
   simp only[Sp.some,decide_eq_false_iff_not] at hn
   simp only[Sp.has,Sp.no]
   constructor
   ·omega
   ·rintro ⟨x,h1,k',h2,h3,h4,rfl⟩;omega
  ·rw[if_neg hn]
   simp only[Sp.some,decide_eq_false_iff_not] at hn
   simp only[Sp.has]
   constructor
   ·intro hy
    by_cases hc:y+s.lo<k.lo
    ·exact ⟨k.lo,by omega,k.lo - y,by omega,by omega,by omega,by omega⟩
    ·exact ⟨y+s.lo,by omega,s.lo,by omega,by omega,by omega,by omega⟩
   ·rintro ⟨x,h1,k',h2,h3,h4,rfl⟩;omega
theorem zzd (e:Bf)(k:Sp)(hk:0≤k.lo):0≤(e.after k).lo:=by
 cases e with
 |nil=>exact hk
 |count s=>unfold Bf.after Sp.both;simp only;split<;>simp only[Sp.no]<;>omega
 |sale s=>unfold Bf.after;simp only;split<;>simp only[Sp.no]<;>omega
theorem zqm (e:Bf)(h:e.fine)(o:Sp)(x:Int)(_ho:0≤o.lo):(e.before o).has x↔(match e with|.sale s=>o.some=true∧o.lo+s.lo≤x∧x≤o.hi+s.hi|.count s=>o.has x∧s.has x|.nil=>o.has x):=by
 cases e with
 |nil=>rfl
 |count s=>exact zgh ..
 |sale s=>
  simp only[Bf.before]
  split
  ·rename_i hn;simp only[hn,Bool.false_eq_true,false_and,iff_false];exact has_no x
  ·rename_i hn;rw[Bool.not_eq_false] at hn;simp only[hn,true_and,Sp.has]
theorem zkj:∀ (l:List Bf) (k:Sp),(∀ e∈l,e.fine)→0≤k.lo →
  0≤((logs l k).headD Sp.no).lo∧(∀ x,((logs l k).headD Sp.no).has x↔k.has x∧∃ y,Goes l x y)
 |[],k,_,hk=>by
   simp only[logs,List.headD_cons,Goes]
   exact ⟨hk,fun x=>⟨fun h=>⟨h,x,rfl⟩,fun h=>h.1⟩⟩
 |e::l,k,hf,hk=>by
  have he:=hf e (by simp)
  obtain ⟨ih0,ih⟩:=zkj l (e.after k) (fun e h=>hf e (by simp[h])) (zzd e k hk)
  simp only[logs,List.headD_cons]
  generalize (logs l (e.after k)).headD Sp.no=o at ih0 ih ⊢
  refine ⟨?_,fun x=>?_⟩
  ·unfold Sp.both;split<;>simp only[Sp.no]<;>omega
  ·rw[zgh,zqm e he o x ih0]
   refine and_congr_right fun hx=>?_
   cases e with
   |nil=>simp only[ih,Bf.after,Goes];exact ⟨fun h=>h.2,fun h=>⟨hx,h⟩⟩
   |count s=>
    simp only[ih,Bf.after,zgh,Goes]
    exact ⟨fun ⟨⟨_,y,h⟩,h2⟩=>⟨y,h2.1,h2.2,h⟩,fun ⟨y,h1,h2,h3⟩=>⟨⟨⟨hx,h1,h2⟩,y,h3⟩,h1,h2⟩⟩
   |sale s=>
    simp only
    constructor
    ·rintro ⟨h1,h2,h3⟩
     rw[some_iff] at h1
     simp only[Bf.fine] at he
     have hz:∃ z,o.has z∧s.lo≤x - z∧x - z≤s.hi:=by
      by_cases hc:x - s.lo≤o.hi
      ·exact ⟨x - s.lo,⟨by omega,by omega⟩,by omega,by omega⟩
      ·exact ⟨o.hi,⟨by omega,by omega⟩,by omega,by omega⟩
     obtain ⟨z,hz,h4,h5⟩:=hz
     obtain ⟨hz1,y,hy⟩:=(ih z).1 hz
     have hz0:0≤z:=by simp only[Sp.has] at hz;omega
     refine ⟨y,x - z,h4,h5,by omega,?_⟩
     rw[show x - (x - z)=z by omega];exact hy
    ·rintro ⟨y,k',h1,h2,h3,h4⟩
     have:=(ih (x - k')).2 ⟨(zva _ he k hk _).2 ⟨x,hx,k',h1,h2,h3,rfl⟩,y,h4⟩
     simp only[Sp.has] at this
     exact ⟨(some_iff _).2 (by omega),by omega,by omega⟩
def ends (l:List Bf)(k:Sp):Sp:=l.foldl (fun k e=>e.after k) k
theorem zkk (l:List Bf)(n:Int)(hf:∀ e∈l,e.fine)(hn:0≤n):((logs l ⟨n,n⟩).headD Sp.no).some=true↔∃ y,Goes l n y:=by
 obtain ⟨_,h⟩:=zkj l ⟨n,n⟩ hf hn
 rw[zxd]
 constructor
 ·rintro ⟨x,hx⟩
  obtain ⟨h1,y,h2⟩:=(h x).1 hx
  simp only[Sp.has] at h1
  have e:x=n:=by omega
  subst e;exact ⟨y,h2⟩
 ·rintro ⟨y,hy⟩
  exact ⟨n,(h n).2 ⟨⟨Int.le_refl _,Int.le_refl _⟩,y,hy⟩⟩
def bit (s:Nat)(i:Nat):Bool:=s.testBit i
def befell (c:Cl)(number:Int)(counts:Nat):List Bf:=
 c.events.zipIdx.map fun p=>if p.1.clamp≠number then .nil else if p.1.kind=0 then .sale p.1.sods else if bit counts p.2 then .count p.1.sods else .nil
def spanL (s:Sp):List Int:=(List.range (s.hi+1 - s.lo).toNat).map fun (i:Nat)=>s.lo+(i:Int)
structure Size where
 l:Int
 w:Int
 h:Int
 deriving DecidableEq,Inhabited
def sizes (p:Pl):List Size:=(spanL p.long).flatMap fun l=>(spanL p.wide).flatMap fun w=>(spanL p.high).map fun h=>⟨l,w,h⟩
def Size.sods (s:Size)(pack:Int):Int:=s.l * s.w * s.h * pack
def logOf (c:Cl)(number:Nat)(pack:Int)(counts:Nat)(s:Size):List Sp:=logs (befell c number counts) ⟨s.sods pack,s.sods pack⟩
structure Way where
 size:Size
 log:List Sp
def ways (c:Cl)(number:Nat)(pack:Int)(counts:Nat):List Way:=
 (sizes (c.piles.getD number default)).filterMap fun s=>if ((logOf c number pack counts s).headD Sp.no).some then some ⟨s,logOf c number pack counts s⟩ else none
def packs (c:Cl)(counts:Nat):List Int:=(spanL c.pack).filter fun k=>(List.range c.piles.length).all fun i=>!(ways c i k counts).isEmpty
def can (c:Cl)(counts:Nat):Bool:=!(packs c counts).isEmpty
def hull:List Sp→Sp
 |[]=>⟨0,0⟩
 |k::l=>l.foldl (fun k x=>k.either x) k
def every (c:Cl):Nat:=2 ^ c.events.length - 1
def isSpan (s:Sp)(low high wide:Int):Bool:=decide (low≤s.lo∧s.lo≤s.hi∧s.hi≤high∧s.hi - s.lo≤wide)
def valid (c:Cl):Bool:=decide (1≤c.piles.length∧c.piles.length≤4)&&isSpan c.pack 1 5 2&&decide (c.events.length≤6) &&
 c.piles.all (fun p=>isSpan p.long 1 10 1&&isSpan p.wide 1 10 1&&isSpan p.high 1 10 1) &&
 c.events.all (fun v=>decide (0≤v.clamp∧v.clamp<c.piles.length)&&decide (v.kind=0∨v.kind=1)&&isSpan v.sods 0 5000 (if v.kind=0 then 3 else 5000))
structure Hull (s:Sp) (P:Int→Prop):Prop where
 lo:P s.lo
 hi:P s.hi
 all:∀ x,P x→s.has x
theorem Hull.congr {s:Sp}{P Q:Int→Prop}(h:Hull s P)(e:∀ x,P x↔Q x):Hull s Q:=⟨(e _).1 h.lo,(e _).1 h.hi,fun x hx=>h.all x ((e x).2 hx)⟩
theorem Hull.le {s:Sp}{P:Int→Prop}(h:Hull s P):s.lo≤s.hi:=(h.all _ h.hi).1
theorem Hull.either {s t:Sp}{P Q:Int→Prop}(h:Hull s P)(g:Hull t Q):Hull (s.either t) fun x=>P x∨Q x:=by
 refine ⟨?_,?_,?_⟩
 ·simp only[Sp.either]
  by_cases hc:s.lo≤t.lo
  ·rw[show min s.lo t.lo=s.lo by omega];exact .inl h.lo
  ·rw[show min s.lo t.lo=t.lo by omega];exact .inr g.lo
 ·simp only[Sp.either]
  by_cases hc:t.hi≤s.hi
  ·rw[show max s.hi t.hi=s.hi by omega];exact .inl h.hi
  ·rw[show max s.hi t.hi=t.hi by omega];exact .inr g.hi
 ·rintro x (hx|hx)
  ·have:=h.all x hx;simp only[Sp.has,Sp.either] at this ⊢;omega
  ·have:=g.all x hx;simp only[Sp.has,Sp.either] at this ⊢;omega
theorem Hull.add {s t:Sp}{P Q:Int→Prop}(h:Hull s P)(g:Hull t Q):Hull ⟨s.lo+t.lo,s.hi+t.hi⟩ fun x=>∃ y z,P y∧Q z∧x=y+z:=
 ⟨⟨_, _, h.lo, g.lo, rfl⟩, ⟨_, _, h.hi, g.hi, rfl⟩, fun x ⟨y, z, hy, hz, e⟩ => by
   have:=h.all y hy;have:=g.all z hz;simp only[Sp.has] at *;omega⟩
theorem span_len (s:Sp):(spanL s).length=(s.hi+1 - s.lo).toNat:=by simp[spanL]
theorem span_get (s:Sp){i:Nat}(h:i<(spanL s).length):(spanL s)[i]=s.lo+i:=by simp[spanL]
theorem pre_flat {α β:Type}(f:α→List β){xs:List α}{i:Nat}{x:α}(h:xs[i]?=some x){q:List β}(hq:q <+: f x):(xs.take i).flatMap f++q <+: xs.flatMap f:=by
 obtain ⟨t,ht⟩:=hq
 have hi:=(List.getElem?_eq_some_iff.1 h).1
 have hx:=(List.getElem?_eq_some_iff.1 h).2
 refine ⟨t++(xs.drop (i+1)).flatMap f,?_⟩
 conv=>rhs;rw[← List.take_append_drop i xs,List.drop_eq_getElem_cons hi,hx]
 simp[← ht]
theorem pre_map {α β:Type}(f:α→β){xs:List α}{i:Nat}{x:α}(h:xs[i]?=some x):(xs.take i).map f++[f x] <+: xs.map f:=by
 have hi:=(List.getElem?_eq_some_iff.1 h).1
 have hx:=(List.getElem?_eq_some_iff.1 h).2
 refine ⟨(xs.drop (i+1)).map f,?_⟩
 conv=>rhs;rw[← List.take_append_drop i xs,List.drop_eq_getElem_cons hi,hx]
 simp
theorem flat_succ {α β:Type}(f:α→List β){xs:List α}{i:Nat}{x:α}(h:xs[i]?=some x):(xs.take (i+1)).flatMap f=(xs.take i).flatMap f++f x:=by
 rw[List.take_add_one,h];simp
theorem map_succ {α β:Type}(f:α→β){xs:List α}{i:Nat}{x:α}(h:xs[i]?=some x):(xs.take (i+1)).map f=(xs.take i).map f++[f x]:=by
 rw[List.take_add_one,h];simp
end Clm
namespace Ev
namespace K
attribute [local simp] ev1 wantG spineK spine float xnew xval xeff zab zae zau zah zai addFl cellsOf pickC alive slLen slFt binI maxA maxK minA minK aeqK aeqS AV.cells fillA setAt bitsI nat_nn zav AV.plain apart
set_option maxRecDepth 100000
set_option maxHeartbeats 4000000
structure Hidden (p:Prop):Prop where
 out:p
theorem hideP {p:Prop}(h:p):Hidden p:=⟨h⟩
theorem invP {P:Prop}(h:P:=by (refine st_is ?_ ?_ ?_ ?_;(focus (simp[zag,zal]));(focus rfl);(focus (first|rfl|(simp;done)|(simp;rfl)));(focus rfl))):P:=h
theorem endvP {P:Prop}(h:P:=by simp only[resL,resOf,zaa];simp[*,resV]):P:=h
theorem inwP {P:Prop}(h:P:=by (refine st_is ?_ ?_ ?_ ?_;(focus (simp[zag,zal]));(focus rfl);(focus (first|rfl|(simp;done)|(simp[*];done)|(simp;rfl)|(simp[*];omega)|(simp;omega)));(focus (first|rfl|simp)))):P:=h
theorem gA {P Q:Prop}(q:Q)(h:Hidden Q→P:=by intro q0;(repeat (first|(with_reducible apply zak;(focus ((conv=>lhs;simp[*,spA,zad,Nat.testBit_eq_decide_div_mod_eq])<;>exact rfl));simp only[addFl])|((with_reducible first|apply zaw|apply zay|apply zas|apply zaq|apply zao|apply zax|apply zar|apply zaz|(apply zap;· simp[*,zab])|(apply zam;· simp[*,zab]));try simp only[Then,Ops,OutB,reduceIte])|simp only[Nat.reduceEqDiff,reduceIte,OutB,Then]));exact q0.out):P:=h ⟨q⟩
theorem gB {P Q:Prop}(q:Q)(h:Hidden Q→P:=by intro q0;(repeat (first|((with_reducible apply zak);(focus ((with_reducible apply zba);(focus rfl);(focus rfl);(focus ((conv=>lhs;simp[*,spA,zad,List.getElem?_append_right,List.set_append_right,List.set_cons_zero,List.set_cons_succ,List.getElem?_cons_zero,List.getElem?_cons_succ,List.getElem?_append_left,List.getElem?_set_ne,List.getElem?_set_self,List.set_append_left,List.length_set,-getElem?_pos,Nat.testBit_eq_decide_div_mod_eq])<;>exact rfl));(focus rfl);(focus rfl)));simp only[addFl])|(with_reducible apply zak;(focus ((conv=>lhs;simp[*,List.getElem?_append_right,List.set_append_right,List.getElem?_cons_zero,List.getElem?_append_left,List.set_append_left,-getElem?_pos,spA,zad,Nat.testBit_eq_decide_div_mod_eq])<;>exact rfl));simp only[addFl])|((with_reducible first|apply zaw|apply zay|apply zas|apply zaq|apply zao|apply zax|apply zar|apply zaz|(apply zap;· simp[*,zab])|(apply zam;· simp[*,zab]));try simp only[Then,Ops,OutB,reduceIte])|simp only[Nat.reduceEqDiff,reduceIte,OutB,Then]));exact q0.out):P:=h ⟨q⟩
theorem gC {P Q:Prop}(q:Q)(h:Hidden Q→P:=by intro q0;(repeat (first|((with_reducible apply zak);(focus ((with_reducible apply zba);(focus rfl);(focus rfl);(focus ((conv=>lhs;simp[*,spA,zad,List.getElem?_append_right,List.set_append_right,List.set_cons_zero,List.set_cons_succ,List.getElem?_cons_zero,List.getElem?_cons_succ,List.getElem?_append_left,List.getElem?_set_ne,List.getElem?_set_self,List.set_append_left,List.length_set,-getElem?_pos,↓zbe,↓zbr,Nat.testBit_eq_decide_div_mod_eq])<;>exact rfl));(focus rfl);(focus rfl)));simp only[addFl])|(with_reducible apply zak;(focus ((conv=>lhs;simp[*,List.getElem?_append_right,List.set_append_right,List.getElem?_cons_zero,List.getElem?_append_left,List.set_append_left,-getElem?_pos,↓zbe,↓zbr,spA,zad,Nat.testBit_eq_decide_div_mod_eq])<;>exact rfl));simp only[addFl])|((with_reducible first|apply zaw|apply zay|apply zas|apply zaq|apply zao|apply zax|apply zar|apply zaz|(apply zap;· simp[*,zab])|(apply zam;· simp[*,zab]));try simp only[Then,Ops,OutB,reduceIte])|simp only[Nat.reduceEqDiff,reduceIte,OutB,Then]));exact q0.out):P:=h ⟨q⟩
theorem gD {P Q:Prop}(q:Q)(h:Hidden Q→P:=by intro q0;(repeat (first|(with_reducible apply zak;(focus ((conv=>lhs;simp[*,spA,zad,Nat.testBit_eq_decide_div_mod_eq])<;>exact rfl));simp only[addFl])|(with_reducible apply zgq;(focus ((conv=>lhs;simp[*,spA,zad,Nat.testBit_eq_decide_div_mod_eq])<;>exact rfl));(try simp only[Ops,Then,OutB]);(try dsimp only))|((with_reducible first|apply zaw|apply zay|apply zas|apply zaq|apply zao|apply zax|apply zar|apply zaz|(apply zap;· simp[*,zab])|(apply zam;· simp[*,zab]));try simp only[Then,Ops,OutB,reduceIte])|simp only[Nat.reduceEqDiff,reduceIte,OutB,Then]));exact q0.out):P:=h ⟨q⟩
theorem gE {P Q:Prop}(q:Q)(h:Hidden Q→P:=by intro q0;(repeat (first|(with_reducible apply zak;(focus ((conv=>lhs;simp[*,↓zbe,spA,zad,Nat.testBit_eq_decide_div_mod_eq])<;>exact rfl));simp only[addFl])|((with_reducible first|apply zaw|apply zay|apply zas|apply zaq|apply zao|apply zax|apply zar|apply zaz|(apply zap;· simp[*,zab])|(apply zam;· simp[*,zab]));try simp only[Then,Ops,OutB,reduceIte])|simp only[Nat.reduceEqDiff,reduceIte,OutB,Then]));exact q0.out):P:=h ⟨q⟩
theorem gF {P Q:Prop}(q:Q)(h:Hidden Q→P:=by intro q0;(repeat (first|(with_reducible apply zak;(focus ((conv=>lhs;simp[*,evE,spA,zad,Nat.testBit_eq_decide_div_mod_eq])<;>exact rfl));simp only[addFl])|((with_reducible first|apply zaw|apply zay|apply zas|apply zaq|apply zao|apply zax|apply zar|apply zaz|(apply zap;· simp[*,zab])|(apply zam;· simp[*,zab]));try simp only[Then,Ops,OutB,reduceIte])|simp only[Nat.reduceEqDiff,reduceIte,OutB,Then]));exact q0.out):P:=h ⟨q⟩
theorem gG {P Q:Prop}(q:Q)(h:Hidden Q→P:=by intro q0;(repeat (first|((with_reducible apply zak);(focus ((with_reducible apply zba);(focus rfl);(focus rfl);(focus ((conv=>lhs;simp[*,spA,zad,List.getElem?_append_right,List.set_append_right,List.set_cons_zero,List.set_cons_succ,List.getElem?_cons_zero,List.getElem?_cons_succ,List.getElem?_append_left,List.getElem?_set_ne,List.getElem?_set_self,List.set_append_left,List.length_set,-getElem?_pos,↓zbe,Nat.testBit_eq_decide_div_mod_eq])<;>exact rfl));(focus rfl);(focus rfl)));simp only[addFl])|(with_reducible apply zak;(focus ((conv=>lhs;simp[*,List.getElem?_append_right,List.set_append_right,List.getElem?_cons_zero,List.getElem?_append_left,List.set_append_left,-getElem?_pos,↓zbe,spA,zad,Nat.testBit_eq_decide_div_mod_eq])<;>exact rfl));simp only[addFl])|((with_reducible first|apply zaw|apply zay|apply zas|apply zaq|apply zao|apply zax|apply zar|apply zaz|(apply zap;· simp[*,zab])|(apply zam;· simp[*,zab]));try simp only[Then,Ops,OutB,reduceIte])|simp only[Nat.reduceEqDiff,reduceIte,OutB,Then]));exact q0.out):P:=h ⟨q⟩
theorem gJ {P Q:Prop}(q:Q)(h:Hidden Q→P:=by intro q0;(repeat (first|(with_reducible apply zak;(focus ((conv=>lhs;simp[*,ptE,spA,zad,Nat.testBit_eq_decide_div_mod_eq])<;>exact rfl));simp only[addFl])|((with_reducible first|apply zaw|apply zay|apply zas|apply zaq|apply zao|apply zax|apply zar|apply zaz|(apply zap;· simp[*,zab])|(apply zam;· simp[*,zab]));try simp only[Then,Ops,OutB,reduceIte])|simp only[Nat.reduceEqDiff,reduceIte,OutB,Then]));exact q0.out):P:=h ⟨q⟩
theorem gK {P Q:Prop}(q:Q)(h:Hidden Q→P:=by intro q0;(repeat (first|((with_reducible apply zak);(focus ((with_reducible apply zba);(focus rfl);(focus rfl);(focus ((conv=>lhs;simp[*,spA,zad,List.getElem?_append_right,List.set_append_right,List.set_cons_zero,List.set_cons_succ,List.getElem?_cons_zero,List.getElem?_cons_succ,List.getElem?_append_left,List.getElem?_set_ne,List.getElem?_set_self,List.set_append_left,List.length_set,-getElem?_pos,evE,↓zbe,Nat.testBit_eq_decide_div_mod_eq])<;>exact rfl));(focus rfl);(focus rfl)));simp only[addFl])|(with_reducible apply zak;(focus ((conv=>lhs;simp[*,List.getElem?_append_right,List.set_append_right,List.getElem?_cons_zero,List.getElem?_append_left,List.set_append_left,-getElem?_pos,evE,↓zbe,spA,zad,Nat.testBit_eq_decide_div_mod_eq])<;>exact rfl));simp only[addFl])|((with_reducible first|apply zaw|apply zay|apply zas|apply zaq|apply zao|apply zax|apply zar|apply zaz|(apply zap;· simp[*,zab])|(apply zam;· simp[*,zab]));try simp only[Then,Ops,OutB,reduceIte])|simp only[Nat.reduceEqDiff,reduceIte,OutB,Then]));exact q0.out):P:=h ⟨q⟩
theorem gM {P Q:Prop}(q:Q)(h:Hidden Q→P:=by intro q0;(repeat (first|(with_reducible apply zak;(focus ((conv=>lhs;simp[*,ptE,spA,zad,Nat.testBit_eq_decide_div_mod_eq])<;>exact rfl));simp only[addFl])|(with_reducible apply zgq;(focus ((conv=>lhs;simp[*,ptE,spA,zad,Nat.testBit_eq_decide_div_mod_eq])<;>exact rfl));(try simp only[Ops,Then,OutB]);(try dsimp only))|((with_reducible first|apply zaw|apply zay|apply zas|apply zaq|apply zao|apply zax|apply zar|apply zaz|(apply zap;· simp[*,zab])|(apply zam;· simp[*,zab]));try simp only[Then,Ops,OutB,reduceIte])|simp only[Nat.reduceEqDiff,reduceIte,OutB,Then]));exact q0.out):P:=h ⟨q⟩
theorem gN {P Q:Prop}(q:Q)(h:Hidden Q→P:=by intro q0;(repeat (first|(with_reducible apply zak;(focus ((conv=>lhs;simp[*,evE,spA,zad,Nat.testBit_eq_decide_div_mod_eq])<;>exact rfl));simp only[addFl])|(with_reducible apply zgq;(focus ((conv=>lhs;simp[*,evE,spA,zad,Nat.testBit_eq_decide_div_mod_eq])<;>exact rfl));(try simp only[Ops,Then,OutB]);(try dsimp only))|((with_reducible first|apply zaw|apply zay|apply zas|apply zaq|apply zao|apply zax|apply zar|apply zaz|(apply zap;· simp[*,zab])|(apply zam;· simp[*,zab]));try simp only[Then,Ops,OutB,reduceIte])|simp only[Nat.reduceEqDiff,reduceIte,OutB,Then]));exact q0.out):P:=h ⟨q⟩
theorem gO {P Q:Prop}(q:Q)(h:Hidden Q→P:=by intro q0;(repeat (first|((with_reducible apply zak);(focus ((with_reducible apply zba);(focus rfl);(focus rfl);(focus ((conv=>lhs;simp[*,spA,zad,List.getElem?_append_right,List.set_append_right,List.set_cons_zero,List.set_cons_succ,List.getElem?_cons_zero,List.getElem?_cons_succ,List.getElem?_append_left,List.getElem?_set_ne,List.getElem?_set_self,List.set_append_left,List.length_set,-getElem?_pos,ptE,Nat.testBit_eq_decide_div_mod_eq])<;>exact rfl));(focus rfl);(focus rfl)));simp only[addFl])|(with_reducible apply zak;(focus ((conv=>lhs;simp[*,List.getElem?_append_right,List.set_append_right,List.getElem?_cons_zero,List.getElem?_append_left,List.set_append_left,-getElem?_pos,ptE,spA,zad,Nat.testBit_eq_decide_div_mod_eq])<;>exact rfl));simp only[addFl])|((with_reducible first|apply zaw|apply zay|apply zas|apply zaq|apply zao|apply zax|apply zar|apply zaz|(apply zap;· simp[*,zab])|(apply zam;· simp[*,zab]));try simp only[Then,Ops,OutB,reduceIte])|simp only[Nat.reduceEqDiff,reduceIte,OutB,Then]));exact q0.out):P:=h ⟨q⟩
theorem gP {P Q:Prop}(q:Q)(h:Hidden Q→P:=by intro q0;(repeat (first|((with_reducible apply zak);(focus ((with_reducible apply zba);(focus rfl);(focus rfl);(focus ((conv=>lhs;simp[*,spA,zad,List.getElem?_append_right,List.set_append_right,List.set_cons_zero,List.set_cons_succ,List.getElem?_cons_zero,List.getElem?_cons_succ,List.getElem?_append_left,List.getElem?_set_ne,List.getElem?_set_self,List.set_append_left,List.length_set,-getElem?_pos,↓zbe,↓zbr,evE,roadCs,Nat.testBit_eq_decide_div_mod_eq])<;>exact rfl));(focus rfl);(focus rfl)));simp only[addFl])|(with_reducible apply zak;(focus ((conv=>lhs;simp[*,List.getElem?_append_right,List.set_append_right,List.getElem?_cons_zero,List.getElem?_append_left,List.set_append_left,-getElem?_pos,↓zbe,↓zbr,evE,roadCs,spA,zad,Nat.testBit_eq_decide_div_mod_eq])<;>exact rfl));simp only[addFl])|((with_reducible first|apply zaw|apply zay|apply zas|apply zaq|apply zao|apply zax|apply zar|apply zaz|(apply zap;· simp[*,zab])|(apply zam;· simp[*,zab]));try simp only[Then,Ops,OutB,reduceIte])|simp only[Nat.reduceEqDiff,reduceIte,OutB,Then]));exact q0.out):P:=h ⟨q⟩
theorem gQ {P Q:Prop}(q:Q)(h:Hidden Q→P:=by intro q0;(repeat (first|((with_reducible apply zak);(focus ((with_reducible apply zba);(focus rfl);(focus rfl);(focus ((conv=>lhs;simp[*,spA,zad,List.getElem?_append_right,List.set_append_right,List.set_cons_zero,List.set_cons_succ,List.getElem?_cons_zero,List.getElem?_cons_succ,List.getElem?_append_left,List.getElem?_set_ne,List.getElem?_set_self,List.set_append_left,List.length_set,-getElem?_pos,ptE,evE,Nat.testBit_eq_decide_div_mod_eq])<;>exact rfl));(focus rfl);(focus rfl)));simp only[addFl])|(with_reducible apply zak;(focus ((conv=>lhs;simp[*,List.getElem?_append_right,List.set_append_right,List.getElem?_cons_zero,List.getElem?_append_left,List.set_append_left,-getElem?_pos,ptE,evE,spA,zad,Nat.testBit_eq_decide_div_mod_eq])<;>exact rfl));simp only[addFl])|((with_reducible first|apply zaw|apply zay|apply zas|apply zaq|apply zao|apply zax|apply zar|apply zaz|(apply zap;· simp[*,zab])|(apply zam;· simp[*,zab]));try simp only[Then,Ops,OutB,reduceIte])|simp only[Nat.reduceEqDiff,reduceIte,OutB,Then]));exact q0.out):P:=h ⟨q⟩
theorem gR {P Q:Prop}(q:Q)(h:Hidden Q→P:=by intro q0;(repeat (first|(with_reducible apply zak;(focus ((conv=>lhs;simp[*,keyOK,spA,zad,Nat.testBit_eq_decide_div_mod_eq])<;>exact rfl));simp only[addFl])|((with_reducible first|apply zaw|apply zay|apply zas|apply zaq|apply zao|apply zax|apply zar|apply zaz|(apply zap;· simp[*,zab])|(apply zam;· simp[*,zab]));try simp only[Then,Ops,OutB,reduceIte])|simp only[Nat.reduceEqDiff,reduceIte,OutB,Then]));exact q0.out):P:=h ⟨q⟩
theorem zaf {n:Int}(h1:-9223372036854775808≤n)(h2:n≤9223372036854775807):IntKind.i64.wrap n=n:=by
 simp[IntKind.wrap,IntKind.bits,IntKind.signed]
 split<;>omega
theorem st_eq {st:St}{tm:List AV}{df:List ADef}{hp:List AB}{tc:List Nat}(h1:st.tm=tm)(h2:st.df=df)(h3:st.hp=hp)(h4:st.tc=tc):st=⟨tm,df,hp,tc⟩:=by
 cases st;cases h1;cases h2;cases h3;cases h4;rfl
theorem zad (k:Nat)(H:List AB)(b off n k':Nat):slCells k H (.sl b off n k')=if k=k' then (match H[b]? with|some (.cells cs)=>if off+n * k≤cs.length then some ((cs.drop off).take (n * k)) else none|_=>none) else none:=rfl
structure Has (C:Cfg) (f:Nat) (fn:AFunc):Prop where
 ext:C.ext f=none
 exth:C.exth f=none
 fns:C.fns f=some fn
 whole:C.whole f=true
def spA (s:Clm.Sp):AV:=.agg [.int .i64 s.lo,.int .i64 s.hi]
theorem zdg {G:List AB}{l:Nat}(x:AB)(hl:l<G.length):∃ G2,G2=G.set l x∧G2.length=G.length∧G2[l]?=some x∧(∀ j,j≠l→G2[j]?=G[j]?)∧Kp [l] G G2:=
 ⟨_,rfl,by simp,List.getElem?_set_self hl,fun j hj=>List.getElem?_set_ne (by omega),(Kp.refl [l] G).set _ _ (by simp)⟩
theorem zew {C:Cfg}{n f:Nat}{fn:AFunc}{first captured args:List AV}{H K:List AB}{v:AV}(hc:C.calm=true)(h0:Has C f fn)(hlen:(first++args++captured).length≤fn.ntmps)(hv:refs v≠[])
  (h:Does (ev C (Ev.call C n) H.length none fn.body { tm:=tmA fn.ntmps (zipI 0 (first++args++captured) []),df:=[],hp:=H,tc:=[] }) (Ends C H.length fn.res fun w hp tc=>w=v∧hp=H++K∧tc=[])):
  Ev.call C (n+1) (.fn (.func f) first captured) args H=some (.ret v,H++K,[]):=by
 obtain ⟨w,hp,tc,H',c1,⟨rfl,rfl,rfl⟩,c5,c6,_⟩:=zbm hc h0.ext h0.exth h0.fns h0.whole hlen h
 rw[c1,lft_eq c5 (Kp.app _ _) c6 (.inl hv)]
theorem zaj {C:Cfg}{n f:Nat}{fn:AFunc}{first captured args:List AV}{H:List AB}{v:AV}(hc:C.calm=true)(h0:Has C f fn)(hlen:(first++args++captured).length≤fn.ntmps)(hv:refs v=[])
  (h:Does (ev C (Ev.call C n) H.length none fn.body { tm:=tmA fn.ntmps (zipI 0 (first++args++captured) []),df:=[],hp:=H,tc:=[] }) (Ends C H.length fn.res fun w _hp tc=>w=v∧tc=[])):
  Ev.call C (n+1) (.fn (.func f) first captured) args H=some (.ret v,H,[]):=by
 obtain ⟨w,hp,tc,H',c1,⟨rfl,rfl⟩,_,_,c7⟩:=zbm hc h0.ext h0.exth h0.fns h0.whole hlen h
 rw[c1,c7 hv rfl]
theorem zzm {d:Nat}(h:d≤40):IntKind.u64.wrap (1 * 2 ^ (min ((d:Int).toNat) IntKind.u64.bits))=((2 ^ d:Nat):Int)∧IntKind.u64.wrap (2 ^ (min ((d:Int).toNat) IntKind.u64.bits))=((2 ^ d:Nat):Int)∧IntKind.u64.wrap (2 ^ (min d IntKind.u64.bits))=((2 ^ d:Nat):Int):=by
 have hb:IntKind.u64.bits=64:=rfl
 have h1:min ((d:Int).toNat) IntKind.u64.bits=d:=by rw[hb];omega
 have h1':min d IntKind.u64.bits=d:=by rw[hb];omega
 have h2:(2:Int) ^ d=((2 ^ d:Nat):Int):=by simp
 have h3:2 ^ d≤2 ^ 40:=Nat.pow_le_pow_right (by decide) h
 have h4:∀ q:Nat,q≤2 ^ 40→IntKind.u64.wrap (q:Int)=q:=by
  intro q hq
  simp[IntKind.wrap,IntKind.bits,IntKind.signed]
  omega
 rw[h1,h1',Int.one_mul,h2]
 exact ⟨h4 _ h3,h4 _ h3,h4 _ h3⟩
theorem zet {n:Int}(h1:0≤n)(h2:n<18446744073709551616):IntKind.u64.wrap n=n:=by
 simp[IntKind.wrap,IntKind.bits,IntKind.signed]
 omega
theorem zwa {n d:Nat}(hd:d≤64):IntKind.u64.wrap ((BitVec.ofInt IntKind.u64.bits ((n:Int).fdiv (2 ^ (min ((d:Int).toNat) IntKind.u64.bits)))&&&BitVec.ofInt IntKind.u64.bits 1).toNat)=if n.testBit d then 1 else 0:=by
 have hb:IntKind.u64.bits=64:=rfl
 have hf:((n:Int).fdiv (2 ^ d))=((n / 2 ^ d:Nat):Int):=by
  rw[Int.fdiv_eq_ediv_of_nonneg _ (Int.pow_nonneg (by decide))];simp
 rw[show min ((d:Int).toNat) IntKind.u64.bits=d by rw[hb];omega,hf,hb]
 have h1:(BitVec.ofInt 64 ((n / 2 ^ d:Nat):Int)).toNat=(n / 2 ^ d) % 2 ^ 64:=by
  rw[BitVec.toNat_ofInt];omega
 have h2:(BitVec.ofInt 64 1).toNat=1:=by decide
 rw[BitVec.toNat_and,h1,h2,Nat.and_one_is_mod,Nat.testBit_eq_decide_div_mod_eq]
 generalize n / 2 ^ d=q at *
 have h3:q % 2 ^ 64 % 2=q % 2:=by omega
 rw[h3]
 by_cases hm:q % 2=1
 ·rw[hm];rfl
 ·rw[show q % 2=0 by omega];rfl
def Fin (C:Cfg)(pin:Nat)(fn:AFunc)(Q:CRes→List AB→List Nat→Prop)(e:AExit)(st:St):Prop:=∃ x st',finish C pin fn e st=some (x,st')∧pin≤st'.hp.length∧Q x st'.hp st'.tc
theorem zbw {C:Cfg}{pin:Nat}{fn:AFunc}{Q:CRes→List AB→List Nat→Prop}{v:AV}{st:St}(hd:st.df=[])(hl:pin≤st.hp.length)(hq:Q (.pan v) st.hp st.tc):Fin C pin fn Q (.panic v) st:=⟨_,_,zpv hd,hl,hq⟩
theorem zmg {C:Cfg}{pin:Nat}{fn:AFunc}{Q:CRes→List AB→List Nat→Prop}{e:AExit}{st:St}{v:AV}(he:e=.ret∨e=.normal)(hd:st.df=[])(hl:pin≤st.hp.length)(hr:(resL st fn.res).map resV=some v)(hq:Q (.ret v) st.hp st.tc):Fin C pin fn Q e st:=by
 obtain ⟨x,st',h1,h2,v',h3,h4⟩:=zeo (Q:=fun v hp tc=>Q (.ret v) hp tc) (zac he hd hl hr hq)
 exact ⟨x,st',h1,h2,by rw[h3];exact h4⟩
theorem zbl {C:Cfg}{fn:AFunc}{Q:CRes→List AB→List Nat→Prop}{f t b:Nat}{e:Int}{x:AV}{st:St}{v:AV}(hk:C.dfk f=some (t,true))(hd:st.df=[.call f [.ptr b 0]])(hb:st.hp[b]?=some (.cells [x]))
  (hr:(resL { st with hp:=st.hp.set b (.cells [.int .i64 e]) } fn.res).map resV=some v) (hq:Q (.ret v) (st.hp.set b (.cells [.int .i64 e])) st.tc):Fin C 0 fn Q (.panic (.iface t (.agg [.int .i64 e]))) st:=by
 refine ⟨.ret v,{ st with hp:=st.hp.set b (.cells [.int .i64 e]) },?_,Nat.zero_le _,hq⟩
 show (match runDefs C 0 st.df (some (.iface t (.agg [.int .i64 e]))) st with
  |some (none,st)=>(resL st fn.res).map fun vs=>(CRes.ret (resV vs),st)
  |some (some v,st)=>some (.pan v,st)
  |none=>none)=_
 have:runDefs C 0 st.df (some (.iface t (.agg [.int .i64 e]))) st=some (none,{ st with hp:=st.hp.set b (.cells [.int .i64 e]) }):=by
  conv=>lhs;rw[hd]
  simp only[runDefs,hk,codeOf,hb]
  simp[setAt]
 rw[this]
 simp only
 cases h:resL { st with hp:=st.hp.set b (.cells [.int .i64 e]) } fn.res with
 |none=>rw[h] at hr;cases hr
 |some vs=>rw[h] at hr;cases hr;rfl
theorem zdk {C:Cfg}{pin:Nat}{fn:AFunc}{Q:CRes→List AB→List Nat→Prop}{f b:Nat}{k:Nat × Bool}{e:AExit}{st:St}{v:AV}(he:e=.ret∨e=.normal)(hk:C.dfk f=some k)(hd:st.df=[.call f [.ptr b 0]])(hl:pin≤st.hp.length)
  (hr:(resL st fn.res).map resV=some v) (hq:Q (.ret v) st.hp st.tc):Fin C pin fn Q e st:=by
 refine ⟨.ret v,st,?_,hl,hq⟩
 have h1:runDefs C pin st.df none st=some (none,st):=by
  conv=>lhs;rw[hd]
  simp only[runDefs,hk]
 have : (match runDefs C pin st.df none st with
  |some (none,st)=>(resL st fn.res).map fun vs=>(CRes.ret (resV vs),st)
  |_=>none)=some (.ret v,st):=by
  rw[h1]
  simp only
  cases hr':resL st fn.res with
  |none=>rw[hr'] at hr;cases hr
  |some vs=>rw[hr'] at hr;cases hr;rfl
 rcases he with rfl|rfl<;>exact this
def Ans (v:AV)(x:CRes)(_:List AB)(tc:List Nat):Prop:=x=.ret v∧tc=[]
theorem zdl {C:Cfg}{n f:Nat}{fn:AFunc}{first captured args:List AV}{H:List AB}{Q:CRes→List AB→List Nat→Prop}(hc:C.calm=true)(h0:Has C f fn)(hlen:(first++args++captured).length≤fn.ntmps)
  (h:Does (ev C (Ev.call C n) H.length none fn.body { tm:=tmA fn.ntmps (zipI 0 (first++args++captured) []),df:=[],hp:=H,tc:=[] }) (Fin C H.length fn Q)):
  ∃ x hp tc H',Ev.call C (n+1) (.fn (.func f) first captured) args H=Option.some (x,H',tc)∧Q x hp tc∧Lft H hp tc H'∧(refs x.val≠[]∨tc≠[]→H'.length=hp.length∧∀ j,H.length≤j→H'[j]?=hp[j]?)∧(refs x.val=[]→tc=[]→H'=H):=
 znl hc h0.ext h0.exth h0.fns h0.whole hlen h
abbrev le' {a b:Nat} (h:Nat.ble a b=true):a≤b:=Nat.le_of_ble_eq_true h
theorem zbe (fl:List (Nat × List Nat))(d:Nat):(fl.all fun p=>d.testBit p.1 || apart p.2 [])=true:=by simp[apart]
def atP:List Nat→AC→AC
 |0::p,.seq a _=>atP p a
 |1::p,.seq _ b=>atP p b
 |_::p,.block _ c=>atP p c
 |_::p,.loop _ c=>atP p c
 |0::p,.cond _ a _=>atP p a
 |1::p,.cond _ _ b=>atP p b
 |_,c=>c
structure HB (G:List AB) (q:Nat) (x:AB):Prop where
 get:G[q]?=some x
 lt:q<G.length
 lts:∀ n,q<G.length+n
theorem hb {G:List AB}{q:Nat}{x:AB}(h:G[q]?=some x):HB G q x:=⟨h,get_lt h,fun n=>by have:=get_lt h;omega⟩
theorem HB.set {G:List AB}{q r:Nat}{x:AB}(h:HB G q x)(v:AB)(hne:r≠q):HB (G.set r v) q x:=hb (by rw[List.getElem?_set_ne hne];exact h.get)
theorem HB.here {G:List AB}{q:Nat}{x:AB}(h:HB G q x)(v:AB):HB (G.set q v) q v:=hb (by rw[List.getElem?_set_self h.lt])
theorem HB.app {G:List AB}{q:Nat}{x:AB}(h:HB G q x)(K:List AB):HB (G++K) q x:=hb (by rw[List.getElem?_append_left h.lt];exact h.get)
theorem zba {C:Cfg}{call:CallF}{pin:Nat}{nod:Bool}{fl:List (Nat × List Nat)}{o:AOp}{st:St}{v:AV}{hp:List AB}{tc:List Nat}(hg:o.guard=Option.none)(hk:spineK o.op=true)
  (hs:spine call (val C st.tm) st.hp o.op=some (.ret v,hp,tc)) (hd0:Nat.beq o.deps (Nat.sub (Nat.pow 2 o.ix) 1)=true) (hf0:(fl.all fun p=>Nat.ble (p.1+1) o.ix)=true):
  ev1 C call pin nod true fl o st=some (.next Option.none { st with hp:=hp,tm:=putT st.tm o.dst v,tc:=tc.filter (·<pin)++st.tc }):=by
 have hd:o.deps=2 ^ o.ix - 1:=Nat.eq_of_beq_eq_true hd0
 clear hd0
 obtain ⟨ix,dst,op,guard,deps⟩:=o
 dsimp only at hg hk hs hd hf0
 have hf:(fl.all fun p=>deps.testBit p.1)=true:=by
  rw[List.all_eq_true] at hf0 ⊢
  intro p hp
  have:=Nat.le_of_ble_eq_true (hf0 p hp)
  rw[hd,Nat.testBit_two_pow_sub_one]
  exact decide_eq_true (by omega)
 subst hg
 have h1:(fl.all fun p=>deps.testBit p.1 || apart p.2 tc)=true:=by
  rw[List.all_eq_true] at hf ⊢
  intro p hp
  rw[hf p hp,Bool.true_or]
 unfold ev1
 simp only[wantG]
 cases op<;>first|(simp only[spine] at hs;cases hs;done)|(simp only[spineK] at hk;cases hk;done)|(simp only[hs,h1,Bool.or_true,spineK,cond_true])
theorem zbr (fl:List (Nat × List Nat))(d b:Nat)(h:(fl.all fun p=>apart p.2 [b])=true):(fl.all fun p=>d.testBit p.1 || apart p.2 [b])=true:=by
 rw[List.all_eq_true] at h ⊢
 intro p hp
 rw[h p hp,Bool.or_true]
def ints (l:List Int):List AV:=l.map (AV.int .i64)
theorem zfn:∀ l,(ints l).all AV.plain=true
 |[]=>rfl
 |a::l=>by simp only[ints,List.map_cons,List.all_cons];exact zfn l
end K
def af14:AFunc:=⟨25,[.tmp 4,.tmp 5,.cell 6 none],Zq [Zo 0 2 (.box (Zt 0)),Zo 1 3 (.box (Zt 1)),Zo 2 4 (.mov (Zn 0)),Zo 3 5 (.mov (Zn 0)),Zo 4 6 (.alloc [Zi 0])] (Zq [Zo 0 10 (.mkfn (Fn.func 48) [] [Zt 6]),Zs 1 (.defer (Zt 10) [])] (Zq [Zo 0 11 (Zg 4 2),Zo 1 12 (.mkfn (Fn.func 51) [] [Zt 3]),Zo 2 13 (Zc 50 [Zt 11,Zt 12]),Zm 3 7 13] (Zq [Zm 0 15 7,Zl 1 16 3,Zo 2 17 (Zc 53 [Zt 15,Zt 16]),Zm 3 14 17,Zo 4 18 (Zx 14 0),Zo 5 19 (Zx 14 1),Zm 6 8 18,Zm 7 9 19] (Zq [Zm 0 20 9,Zo 1 21 (Zb .neq 20 0),Zo 2 22 (Zc 54 [Zt 21,Zn 4])] (Zq [Zm 0 23 8,Zm 1 24 9,Zm 2 4 23,Zm 3 5 24,Zs 4 (.store 1 (Zt 6) (Zn 0))] .ret)))))⟩
def af23:AFunc:=⟨16,[.tmp 2,.cell 3 none],Zq [Zo 0 1 (.box (Zt 0)),Zo 1 2 (.mov (Zn 0)),Zo 2 3 (.alloc [Zi 0])] (Zq [Zo 0 5 (.mkfn (Fn.func 79) [] [Zt 3]),Zs 1 (.defer (Zt 5) [])] (Zq [Zo 0 6 (Zg 4 1),Zo 1 7 (Zc 50 [Zt 6,.val (.fn (Fn.func 59) [] [])]),Zm 2 4 7] (Zr [Zo 0 8 (Zf 3 1),Zd 1 9 1 (.load none (Zt 8)),Zd 2 10 3 (.len (Zt 9)),Zd 3 11 7 (.bin .shl (Zn 1) (Zt 10)),Zd 4 12 15 (Zb .sub 11 1),Zm 5 13 4,Zd 6 14 32 (Zc 80 [Zt 13,.val (.fn (Fn.func 81) [] [])]),Zd 7 15 127 (Za .andNot 12 14),Zd 8 2 255 (.mov (Zt 15)),Ze 9 511 (.store 1 (Zt 3) (Zn 0))] .ret)))⟩
def af25:AFunc:=⟨25,[.tmp 4,.cell 5 none],Zq [Zo 0 2 (.box (Zt 0)),Zo 1 3 (.box (Zt 1)),Zo 2 4 (.mov (Zn 0)),Zo 3 5 (.alloc [Zi 0])] (Zq [Zo 0 8 (.mkfn (Fn.func 84) [] [Zt 5]),Zs 1 (.defer (Zt 8) [])] (Zq [Zo 0 9 (Zg 4 2),Zo 1 10 (.mkfn (Fn.func 85) [] [Zt 3]),Zo 2 11 (Zc 50 [Zt 9,Zt 10]),Zm 3 6 11] (Zq [Zm 0 12 6,Zo 1 13 (.mkfn (Fn.func 86) [] [Zt 3]),Zo 2 14 (Zc 80 [Zt 12,Zt 13]),Zm 3 7 14] (Zq [Zm 0 15 7,Zl 1 16 3,Zo 2 17 (Za .shr 15 16),Zo 3 18 (Zb .and 17 1),Zo 4 19 (Zb .eql 18 1),Zo 5 20 (Zc 54 [Zt 19,Zn 4])] (Zq [Zm 0 21 7,Zl 1 22 3,Zo 2 23 (.bin .shl (Zn 1) (Zt 22)),Zo 3 24 (Za .andNot 21 23),Zm 4 4 24,Zs 5 (.store 1 (Zt 5) (Zn 0))] .ret)))))⟩
def af36:AFunc:=⟨20,[.tmp 4,.cell 5 none],Zq [Zo 0 2 (.box (Zt 0)),Zo 1 3 (.box (Zt 1)),Zo 2 4 (.mov (Zn 0)),Zo 3 5 (.alloc [Zi 0])] (Zq [Zo 0 7 (.mkfn (Fn.func 97) [] [Zt 5]),Zs 1 (.defer (Zt 7) [])] (Zq [Zo 0 8 (Zg 2 2),Zo 1 9 (.mkfn (Fn.func 100) [] [Zt 3]),Zo 2 10 (Zc 99 [Zt 8,Zt 9]),Zo 3 11 (Zc 102 [Zt 10]),Zm 4 6 11] (.seq (.block 0 (Zq [Zm 0 13 6,Zl 1 14 3,Zo 2 15 (Zc 103 [Zt 13,Zn 0,Zt 14]),Zm 3 12 15] (Zu 12 (Zq [Zo 0 4 (.mov (Zn 2)),Zs 1 (.store 1 (Zt 5) (Zn 0))] .ret) (Zq [Zm 0 17 6,Zl 1 18 3,Zo 2 19 (Zc 104 [Zt 17,Zt 18]),Zm 3 16 19] (Zu 16 (Zq [Zo 0 4 (.mov (Zn 1)),Zs 1 (.store 1 (Zt 5) (Zn 0))] .ret) .skip))))) (Zq [Zo 0 4 (.mov (Zn 0)),Zs 1 (.store 1 (Zt 5) (Zn 0))] .ret))))⟩
def af50:AFunc:=⟨64,[.tmp 4],Zq [Zo 0 2 (.box (Zt 0)),Zo 1 4 (.mov (.val .nilp))] (Zq [Zo 0 11 (Zf 0 2),Zo 1 12 (Zg 2 11),Zo 2 13 (Zc 112 [Zt 12]),Zm 3 10 13,Zo 4 14 (Zx 10 0),Zo 5 15 (Zx 10 1),Zm 6 5 14,Zm 7 6 15] (Zq [Zm 0 16 6,Zo 1 17 (Zb .eql 16 0),Zm 2 18 17,Zh 3 19 18 0 (Zf 0 2),Zh 4 20 18 0 (Zf 1 19),Zh 5 21 18 0 (.load none (Zt 20)),Zh 6 22 18 0 (.len (Zt 21)),Zh 7 23 18 0 (Zb .leq 22 2),Zo 8 24 (.pick (Zt 18) (Zt 23) Zy),Zm 9 25 24,Zh 10 26 25 0 (Zf 2 2),Zh 11 27 25 0 (.load none (Zt 26)),Zh 12 28 25 0 (Zc 113 [Zt 27,Zn 1,Zn 4]),Zo 13 29 (.pick (Zt 25) (Zt 28) Zy),Zm 14 30 29,Zh 15 31 30 0 (Zf 3 2),Zh 16 32 30 0 (.load none (Zt 31)),Zh 17 33 30 0 (.len (Zt 32)),Zh 18 34 30 0 (Zb .leq 33 4),Zo 19 35 (.pick (Zt 30) (Zt 34) Zy),Zo 20 36 (Zc 54 [Zt 35,Zn 1])] (Zq [Zo 0 37 (Zg 4 2),Zo 1 38 .mkmap,Zo 2 39 (.build [.nils,.nils,Zi 0,.nils,.nilmap] [(0,(4,Zt 37)),(4,(1,Zt 38))]),Zo 3 40 (.box (Zt 39)),Zm 4 7 40] (.seq (Zq [Zo 0 41 (Zf 3 2),Zl 1 42 41,Zo 2 43 (.len (Zt 42)),Zo 3 44 (.mov (Zn 0))] (.block 0 (.loop [1,7,42,43,44] (Zq [Zo 0 45 (Za .lss 44 43)] (.seq (Zu 45 .skip (.exit 0)) (.seq (.block 1 (Zq [Zo 0 46 (Zj 2 42 44),Zo 1 47 (Zg 2 46),Zo 2 9 (.alloc [Zi 0,Zi 0]),Zs 3 (.store 2 (Zt 9) (Zt 47))] (.ops [Zo 0 48 (Zf 0 9),Zl 1 49 48,Zo 2 50 (Zc 113 [Zt 49,Zn 0,Zn 60]),Zm 3 51 50,Zh 4 52 51 0 (.mov (Zt 7)),Zh 5 53 51 0 (Zf 1 9),Zh 6 54 51 0 (.load none (Zt 53)),Zh 7 55 51 0 (Zc 90 [Zt 52,Zt 54]),Zo 8 56 (.pick (Zt 51) (Zt 55) Zy),Zo 9 57 (Zc 54 [Zt 56,Zn 1])]))) (.ops [Zo 0 58 (Zb .add 44 1),Zm 1 44 58]))))))) (Zq [Zm 0 59 1,Zm 1 60 7,Zo 2 61 (.call (Zt 59) [Zt 60]),Zo 3 62 (Zc 54 [Zt 61,Zn 2])] (Zq [Zm 0 63 7,Zm 1 4 63] .ret))))))⟩
def af51:AFunc:=⟨7,[.tmp 3],Zq [Zo 0 3 (.mov Zy)] (Zq [Zm 0 4 0,Zl 1 5 1,Zo 2 6 (Zc 52 [Zt 4,Zt 5]),Zm 3 3 6] .ret)⟩
def af52:AFunc:=⟨22,[.tmp 4],Zq [Zo 0 2 (.box (Zt 0)),Zo 1 4 (.mov Zy)] (Zq [Zo 0 6 (.mkfn (Fn.func 114) [] [Zt 2]),Zm 1 5 6] (Zq [Zm 0 7 1,Zo 1 8 (.len (Zt 7)),Zl 2 9 2,Zo 3 10 (.nilck (Zt 9)),Zo 4 11 (Zf 0 10),Zo 5 12 (Zf 3 11),Zl 6 13 12,Zo 7 14 (.len (Zt 13)),Zo 8 15 (Za .eql 8 14),Zm 9 16 15,Zh 10 17 16 0 (.mov (Zt 1)),Zh 11 18 16 0 (.mov (Zt 5)),Zh 12 19 16 0 (Zc 115 [Zt 17,Zt 18]),Zh 13 20 16 0 (.not (Zt 19)),Zo 14 21 (.pick (Zt 16) (Zt 20) Zy),Zm 15 4 21] .ret))⟩
def af63:AFunc:=⟨8,[.tmp 2],Zq [Zo 0 2 (.mov (.val .nils))] (.seq (Zq [Zm 0 3 0,Zo 1 4 (.isnil false (Zt 3))] (Zu 4 (Zq [Zo 0 2 (.mov (.val .nils))] .ret) .skip)) (Zq [Zo 0 5 (.buildSl 1 0 [Zi 0] []),Zm 1 6 0,Zo 2 7 (.append 1 (Zt 5) (Zt 6)),Zm 3 2 7] .ret))⟩
def af67:AFunc:=⟨17,[.tmp 3],Zq [Zo 0 3 (.mov (Zn 0))] (.seq (Zq [Zm 0 4 0,Zo 1 5 (Zc 68 [Zt 4,Zn (-1)])] (Zu 5 (Zq [Zo 0 3 (.mov (Zn (-1)))] .ret) .skip)) (Zr [Zl 0 6 1,Zd 1 7 1 (.nilck (Zt 6)),Zd 2 8 3 (Zf 0 7),Zd 3 9 7 (Zf 2 8),Zd 4 10 15 (.load none (Zt 9)),Zo 5 11 (.buildSl 1 1 [Zi 0] [(0,Zn 0)]),Zm 6 12 0,Zd 7 13 96 (.append 1 (Zt 11) (Zt 12)),Zd 8 14 224 (Zc 69 [Zt 13]),Zd 9 15 480 (.max [Zn 0,Zt 14]),Zd 10 16 1023 (Za .sub 10 15),Zd 11 3 2047 (.mov (Zt 16))] .ret))⟩
def af69:AFunc:=⟨25,[.tmp 2],Zq [Zo 0 2 (.mov (Zn 0))] (.seq (Zq [Zm 0 5 0,Zo 1 6 (.len (Zt 5)),Zo 2 7 (Zb .lss 6 1)] (Zu 7 (.cond (.val .nilp) .skip .skip) .skip)) (Zq [Zm 0 9 0,Zo 1 10 (.indexA 1 none (Zt 9) (Zn 0)),Zl 2 11 10,Zm 3 3 11] (.seq (Zq [Zo 0 4 (.mov (Zn 1))] (.block 0 (.loop [0,3,4] (.seq (Zq [Zm 0 12 4,Zm 1 13 0,Zo 2 14 (.len (Zt 13)),Zo 3 15 (Za .lss 12 14)] (Zu 15 .skip (.exit 0))) (.seq (.block 1 (.ops [Zm 0 18 3,Zm 1 19 0,Zm 2 20 4,Zo 3 21 (Zj 1 19 20),Zl 4 22 21,Zo 5 23 (.max [Zt 18,Zt 22]),Zm 6 3 23])) (.ops [Zm 0 16 4,Zo 1 17 (Zb .add 16 1),Zm 2 4 17])))))) (Zq [Zm 0 24 3,Zm 1 2 24] .ret))))⟩
def af72:AFunc:=⟨7,[.tmp 3],Zq [Zo 0 3 (.mov Zy)] (Zq [Zm 0 4 0,Zl 1 5 1,Zo 2 6 (Zc 73 [Zt 4,Zt 5]),Zm 3 3 6] .ret)⟩
def af74:AFunc:=⟨48,[.tmp 4],Zq [Zo 0 4 (.mov (.val .nils))] (.seq (Zq [Zm 0 9 1,Zo 1 10 (Zb .lss 9 0)] (Zu 10 (.cond (.val .nilp) .skip .skip) .skip)) (Zq [Zm 0 13 0,Zo 1 14 (.len (Zt 13)),Zo 2 15 (.conv .u64 (Zt 14)),Zm 3 16 1,Zo 4 17 (.conv .u64 (Zt 16)),Zo 5 18 (Zc 125 [Zt 15,Zt 17]),Zm 6 12 18,Zo 7 19 (Zx 12 0),Zo 8 20 (Zx 12 1),Zm 9 5 19,Zm 10 6 20] (.seq (Zq [Zm 0 21 5,Zo 1 22 (.bin .gtr (Zt 21) (.val (.int .u64 0))),Zm 2 23 22,Zk 3 24 23 0 (.mov (Zt 6)),Zk 4 25 23 0 (.bin .gtr (Zt 24) (.val (.int .u64 9223372036854775807))),Zo 5 26 (.pick (Zt 23) Zw (Zt 25))] (Zu 26 (.cond (.val .nilp) .skip .skip) .skip)) (Zq [Zm 0 28 6,Zo 1 29 (.conv .i64 (Zt 28)),Zo 2 30 (.mksl 1 [Zi 0] (Zt 29) (Zt 29)),Zm 3 7 30] (Zq [Zm 0 31 7,Zm 1 32 0,Zo 2 33 (.copy 1 (Zt 31) (Zt 32)),Zm 3 8 33] (.seq (.block 0 (.loop [7,8] (.seq (Zq [Zm 0 34 8,Zm 1 35 7,Zo 2 36 (.len (Zt 35)),Zo 3 37 (Za .lss 34 36)] (Zu 37 .skip (.exit 0))) (.block 1 (.draw [Zm 0 38 8,Zm 1 39 7,Zm 2 40 8,Zd 3 41 6 (.slice 1 (Zt 39) (some (Zt 40)) none),Zm 4 42 7,Zm 5 43 8,Zd 6 44 48 (.slice 1 (Zt 42) none (some (Zt 43))),Zd 7 45 126 (.copy 1 (Zt 41) (Zt 44)),Zd 8 46 255 (Za .add 38 45),Zd 9 8 511 (.mov (Zt 46))]))))) (Zq [Zm 0 47 7,Zm 1 4 47] .ret)))))))⟩
def af75:AFunc:=⟨15,[.tmp 4],Zq [Zo 0 4 (.mov Zy)] (Zq [Zm 0 8 0,Zm 1 9 1,Zo 2 10 (Zc 53 [Zt 8,Zt 9]),Zm 3 7 10,Zo 4 11 (Zx 7 0),Zo 5 12 (Zx 7 1),Zm 6 5 11,Zm 7 6 12] (Zq [Zm 0 13 6,Zo 1 14 (Zb .eql 13 0),Zm 2 4 14] .ret))⟩
def af80:AFunc:=⟨30,[.cell 4 none],Zq [Zo 0 3 (.box (Zt 1)),Zo 1 4 (.alloc [Zi 0])] (Zq [Zo 0 5 (.alloc [.nilfn]),Zs 1 (.store 1 (Zt 5) (.val (.fn (Fn.func 87) [] [])))] (.seq (Zq [Zm 0 8 0,Zo 1 9 (Zc 61 [Zt 8])] (.block 0 (.rangeF (Zt 9) [10] (.ops [Zm 0 6 10]) (.block 1 (.seq (Zq [Zl 0 11 3,Zm 1 12 6,Zo 2 13 (.call (Zt 11) [Zt 12]),Zo 3 14 (.not (Zt 13))] (Zu 14 (.exit 1) .skip)) (Zq [Zm 0 15 6,Zo 1 16 (.len (Zt 15)),Zo 2 17 (.mov (Zn 0))] (.block 2 (.loop [4,5,6,16,17] (Zq [Zo 0 18 (Za .lss 17 16)] (.seq (Zu 18 .skip (.exit 2)) (.seq (.block 3 (Zq [Zm 0 19 17,Zm 1 7 19] (Zq [Zl 0 20 5,Zm 1 21 6,Zm 2 22 7,Zo 3 23 (.call (Zt 20) [Zt 21,Zt 22])] (Zu 23 (.draw [Zl 0 24 4,Zm 1 25 7,Zd 2 26 2 (.bin .shl (Zn 1) (Zt 25)),Zd 3 27 7 (Za .or 24 26),Ze 4 15 (.store 1 (Zt 4) (Zt 27))]) .skip)))) (.ops [Zo 0 28 (Zb .add 17 1),Zm 1 17 28])))))))))))) (Zq [Zl 0 29 4,Zs 1 (.store 1 (Zt 4) (Zt 29))] .ret)))⟩
def af81:AFunc:=⟨3,[.tmp 2],Zq [Zo 0 2 (.mov Zy)] (Zq [Zo 0 2 (.mov Zw)] .ret)⟩
def af86:AFunc:=⟨7,[.tmp 3],Zq [Zo 0 3 (.mov Zy)] (Zq [Zm 0 4 0,Zl 1 5 1,Zo 2 6 (Zc 87 [Zt 4,Zt 5]),Zm 3 3 6] .ret)⟩
def af89:AFunc:=⟨13,[.tmp 4],Zq [Zo 0 4 (.mov Zy)] (Zq [Zm 0 5 0,Zl 1 6 1,Zo 2 7 (Zc 52 [Zt 5,Zt 6]),Zm 3 8 7,Zh 4 9 8 0 (.mov (Zt 0)),Zh 5 10 8 0 (.load none (Zt 2)),Zh 6 11 8 0 (Zc 90 [Zt 9,Zt 10]),Zo 7 12 (.pick (Zt 8) (Zt 11) Zy),Zm 8 4 12] .ret)⟩
def af99:AFunc:=⟨151,[.tmp 4],Zq [Zo 0 2 (.box (Zt 0)),Zo 1 4 (.mov (.val .nilp))] (Zq [Zo 0 5 (.mov (.val (.fn (Fn.func 131) [] [])))] (Zq [Zo 0 12 (Zf 0 2),Zl 1 13 12,Zo 2 14 (.len (Zt 13)),Zo 3 15 (Zc 133 [Zt 14,Zn 1,Zn 4]),Zm 4 16 15,Zh 5 17 16 0 (Zf 1 2),Zh 6 18 16 0 (.load none (Zt 17)),Zh 7 19 16 0 (.len (Zt 18)),Zh 8 20 16 0 (Zb .leq 19 10),Zo 9 21 (.pick (Zt 16) (Zt 20) Zy),Zo 10 22 (Zc 132 [Zt 21,Zn 1])] (.seq (Zq [Zo 0 23 (Zf 0 2),Zl 1 24 23,Zo 2 25 (.len (Zt 24)),Zo 3 26 (.mov (Zn 0))] (.block 0 (.loop [1,2,5,24,25,26] (Zq [Zo 0 27 (Za .lss 26 25)] (.seq (Zu 27 .skip (.exit 0)) (.seq (.block 1 (Zq [Zo 0 28 (Zj 7 24 26),Zo 1 29 (Zg 7 28),Zo 2 7 (.alloc [Zi 0,Zi 0,Zi 0,Zi 0,Zi 0,Zi 0,Zi 0]),Zs 3 (.store 7 (Zt 7) (Zt 29))] (.ops [Zo 0 30 (Zf 6 7),Zl 1 31 30,Zo 2 32 (Zc 133 [Zt 31,Zn 0,Zn 60]),Zm 3 33 32,Zh 4 34 33 0 (.mov (Zt 5)),Zh 5 35 33 0 (Zf 0 7),Zh 6 36 33 0 (Zg 2 35),Zh 7 37 33 0 (Zf 6 7),Zh 8 38 33 0 (.load none (Zt 37)),Zh 9 39 33 0 (.call (Zt 34) [Zt 36,Zn 0,Zt 38,Zn 2]),Zo 10 40 (.pick (Zt 33) (Zt 39) Zy),Zm 11 41 40,Zh 12 42 41 0 (.mov (Zt 5)),Zh 13 43 41 0 (Zf 2 7),Zh 14 44 41 0 (Zg 2 43),Zh 15 45 41 0 (.call (Zt 42) [Zt 44,Zn 1,Zn 10,Zn 2]),Zo 16 46 (.pick (Zt 41) (Zt 45) Zy),Zm 17 47 46,Zh 18 48 47 0 (.mov (Zt 5)),Zh 19 49 47 0 (Zf 4 7),Zh 20 50 47 0 (Zg 2 49),Zh 21 51 47 0 (.call (Zt 48) [Zt 50,Zn 0,Zn 5,Zn 2]),Zo 22 52 (.pick (Zt 47) (Zt 51) Zy),Zo 23 53 (Zc 132 [Zt 52,Zn 1])]))) (.ops [Zo 0 54 (Zb .add 26 1),Zm 1 26 54]))))))) (Zq [Zo 0 55 (Zg 2 2),Zo 1 56 .mkmap,Zo 2 57 (.build [.nils,.nils,.nils,.nilmap] [(0,(2,Zt 55)),(2,(1,.val .nils)),(3,(1,Zt 56))]),Zo 3 58 (.box (Zt 57)),Zm 4 8 58,Zo 5 9 (.mov (Zn 0))] (.seq (Zq [Zo 0 59 (Zf 1 2),Zl 1 60 59,Zo 2 61 (.len (Zt 60)),Zo 3 62 (.mov (Zn 0))] (.block 2 (.loop [1,5,8,9,60,61,62] (Zq [Zo 0 63 (Za .lss 62 61)] (.seq (Zu 63 .skip (.exit 2)) (.seq (.block 3 (Zq [Zo 0 64 (Zj 7 60 62),Zo 1 65 (Zg 7 64),Zo 2 11 (.alloc [Zi 0,Zi 0,Zi 0,Zi 0,Zi 0,Zi 0,Zi 0]),Zs 3 (.store 7 (Zt 11) (Zt 65))] (Zq [Zo 0 66 (Zf 0 11),Zl 1 67 66] (.block 4 (Zq [Zo 0 96 (Zb .eql 67 0),Zm 1 95 96] (Zu 95 (Zq [Zm 0 97 5,Zo 1 98 (Zf 1 11),Zo 2 99 (Zg 2 98),Zo 3 100 (.call (Zt 97) [Zt 99,Zn 0,Zn 60,Zn 2]),Zo 4 101 (Zc 132 [Zt 100,Zn 1])] (Zq [Zm 0 102 9,Zo 1 103 (Zf 1 11),Zo 2 104 (Zf 1 103),Zl 3 105 104,Zo 4 106 (Zf 1 11),Zo 5 107 (Zf 0 106),Zl 6 108 107,Zo 7 109 (Za .sub 105 108),Zo 8 110 (.min [Zn 1,Zt 109]),Zo 9 111 (Za .add 102 110),Zm 10 9 111] (.ops [Zm 0 112 8,Zm 1 113 8,Zo 2 114 (.nilck (Zt 113)),Zo 3 115 (Zf 2 114),Zl 4 116 115,Zo 5 117 (.build [] []),Zo 6 118 (.iface 168 (Zt 117)),Zo 7 119 (.buildSl 1 1 [.nilif] [(0,Zt 118)]),Zo 8 120 (.append 1 (Zt 116) (Zt 119)),Zo 9 121 (.nilck (Zt 112)),Zo 10 122 (Zf 2 121),Zs 11 (.store 1 (Zt 122) (Zt 120))]))) (Zq [Zo 0 124 (Zb .eql 67 1),Zm 1 123 124] (Zu 123 (Zq [Zo 0 125 (Zf 3 11),Zl 1 126 125,Zo 2 127 (Zc 133 [Zt 126,Zn 1,Zn 10]),Zo 3 128 (Zc 132 [Zt 127,Zn 1])] (.draw [Zm 0 129 8,Zm 1 130 8,Zd 2 131 2 (.nilck (Zt 130)),Zd 3 132 6 (Zf 2 131),Zd 4 133 14 (.load none (Zt 132)),Zo 5 134 (Zf 3 11),Zd 6 135 32 (.load none (Zt 134)),Zd 7 136 96 (.build [Zi 0] [(0,(1,Zt 135))]),Zd 8 137 224 (.iface 171 (Zt 136)),Zd 9 138 480 (.buildSl 1 1 [.nilif] [(0,Zt 137)]),Zd 10 139 1022 (.append 1 (Zt 133) (Zt 138)),Zd 11 140 2047 (.nilck (Zt 129)),Zd 12 141 4095 (Zf 2 140),Ze 13 8191 (.store 1 (Zt 141) (Zt 139))])) (Zq [Zo 0 68 (Zf 0 11),Zl 1 69 68,Zo 2 70 (Zb .eql 69 2),Zm 3 71 70,Zh 4 72 71 0 (.mov (Zt 8)),Zh 5 73 71 0 (Zf 4 11),Zh 6 74 71 0 (.load none (Zt 73)),Zh 7 75 71 0 (Zc 134 [Zt 72,Zt 74]),Zo 8 76 (.pick (Zt 71) (Zt 75) Zy),Zm 9 77 76,Zh 10 78 77 0 (.mov (Zt 5)),Zh 11 79 77 0 (Zf 5 11),Zh 12 80 77 0 (Zg 2 79),Zh 13 81 77 0 (.call (Zt 78) [Zt 80,Zn (-1000),Zn 1000,Zn 2000]),Zo 14 82 (.pick (Zt 77) (Zt 81) Zy),Zo 15 83 (Zc 132 [Zt 82,Zn 1])] (.ops [Zm 0 84 8,Zm 1 85 8,Zo 2 86 (.nilck (Zt 85)),Zo 3 87 (Zf 2 86),Zl 4 88 87,Zo 5 89 (.build [] []),Zo 6 90 (.iface 169 (Zt 89)),Zo 7 91 (.buildSl 1 1 [.nilif] [(0,Zt 90)]),Zo 8 92 (.append 1 (Zt 88) (Zt 91)),Zo 9 93 (.nilck (Zt 84)),Zo 10 94 (Zf 2 93),Zs 11 (.store 1 (Zt 94) (Zt 92))])))))))))) (.ops [Zo 0 142 (Zb .add 62 1),Zm 1 62 142]))))))) (Zq [Zm 0 143 9,Zo 1 144 (Zb .leq 143 4),Zo 2 145 (Zc 132 [Zt 144,Zn 1])] (Zq [Zm 0 146 1,Zm 1 147 8,Zo 2 148 (.call (Zt 146) [Zt 147]),Zo 3 149 (Zc 132 [Zt 148,Zn 2])] (Zq [Zm 0 150 8,Zm 1 4 150] .ret))))))))⟩
def af103:AFunc:=⟨32,[.cell 6 none],Zq [Zo 0 3 (.box (Zt 0)),Zo 1 4 (.box (Zt 1)),Zo 2 5 (.box (Zt 2)),Zo 3 6 (.alloc [.bool false])] (.seq (Zr [Zl 0 9 3,Zl 1 10 3,Zd 2 11 2 (Zc 136 [Zt 10]),Zd 3 12 7 (Zc 137 [Zt 9,Zt 11])] (.block 0 (.rangeF (Zt 12) [13] (.ops [Zo 0 7 (.alloc [Zi 0,Zi 0,Zi 0,Zi 0,Zi 0,Zi 0,Zi 0,Zi 0,Zi 0,Zi 0]),Zs 1 (.store 10 (Zt 7) (Zt 13))]) (.block 1 (Zq [Zl 0 14 3,Zo 1 15 (.nilck (Zt 14)),Zo 2 16 (Zf 0 15),Zo 3 17 (Zf 0 16),Zl 4 18 17,Zo 5 19 (.len (Zt 18)),Zo 6 20 (.mov (Zn 0))] (.block 2 (.loop [3,4,5,6,7,19,20] (Zq [Zo 0 21 (Za .lss 20 19)] (.seq (Zu 21 .skip (.exit 2)) (.seq (.block 3 (Zq [Zm 0 22 20,Zm 1 8 22] (Zr [Zl 0 23 3,Zm 1 24 8,Zo 2 25 (Zg 10 7),Zl 3 26 3,Zo 6 29 (.mkfn (Fn.func 140) [] [Zt 3,Zt 7,Zt 4,Zt 5]),Zd 4 27 8 (Zc 136 [Zt 26]),Zd 5 28 31 (Zc 139 [Zt 23,Zt 24,Zt 25,Zt 27]),Zd 7 30 127 (Zc 138 [Zt 28,Zt 29])] (Zu 30 (Zq [Zs 0 (.store 1 (Zt 6) Zy)] .ret) .skip)))) (.ops [Zo 0 31 (Zb .add 20 1),Zm 1 20 31]))))))))))) (Zq [Zs 0 (.store 1 (Zt 6) Zw)] .ret))⟩
def af113:AFunc:=⟨15,[.tmp 6],Zq [Zo 0 6 (.mov Zy)] (Zq [Zm 0 7 1,Zm 1 8 0,Zo 2 9 (Za .leq 7 8),Zm 3 10 9,Zh 4 11 10 0 (.mov (Zt 0)),Zh 5 12 10 0 (.mov (Zt 2)),Zh 6 13 10 0 (Za .leq 11 12),Zo 7 14 (.pick (Zt 10) (Zt 13) Zy),Zm 8 6 14] .ret)⟩
def af120:AFunc:=⟨7,[],Zq [Zo 0 2 (.box (Zt 0))] (Zq [Zo 0 3 (.alloc [.nilfn])] (Zq [Zo 0 4 (.mkfn (Fn.func 121) [] [Zt 1,Zt 2,Zt 3]),Zs 1 (.store 1 (Zt 3) (Zt 4))] (.ops [Zl 0 5 3,Zo 1 6 (.call (Zt 5) [.val .nils])])))⟩
def af121:AFunc:=⟨58,[.tmp 5],Zq [Zo 0 5 (.mov Zy)] (.seq (Zq [Zm 0 7 0,Zo 1 8 (.len (Zt 7)),Zl 2 9 1,Zo 3 10 (.nilck (Zt 9)),Zo 4 11 (Zf 0 10),Zo 5 12 (Zf 3 11),Zl 6 13 12,Zo 7 14 (.len (Zt 13)),Zo 8 15 (Za .eql 8 14)] (Zu 15 (Zq [Zl 0 16 1,Zm 1 17 0,Zo 2 18 (Zc 75 [Zt 16,Zt 17]),Zo 3 19 (.not (Zt 18)),Zm 4 20 19,Zk 5 21 20 0 (.load none (Zt 2)),Zk 6 22 20 0 (.mov (Zt 0)),Zk 7 23 20 0 (.call (Zt 21) [Zt 22]),Zo 8 24 (.pick (Zt 20) Zw (Zt 23)),Zm 9 5 24] .ret) .skip)) (.seq .skip (.seq (Zq [Zo 0 6 (.mov (Zn (-1)))] (.block 0 (.loop [0,1,3,6] (.seq (Zq [Zm 0 25 6,Zl 1 26 1,Zo 2 27 (.nilck (Zt 26)),Zo 3 28 (Zf 0 27),Zo 4 29 (Zf 2 28),Zl 5 30 29,Zo 6 31 (Za .lss 25 30)] (Zu 31 .skip (.exit 0))) (.seq (.block 1 (.seq (Zq [Zm 0 34 6,Zo 1 35 (Zb .neq 34 (-1)),Zm 2 36 35,Zh 3 37 36 0 (.mov (Zt 6)),Zh 4 38 36 0 (.load none (Zt 1)),Zh 5 39 36 0 (.nilck (Zt 38)),Zh 6 40 36 0 (Zf 0 39),Zh 7 41 36 0 (Zf 3 40),Zh 8 42 36 0 (.load none (Zt 41)),Zh 9 43 36 0 (.mov (Zt 0)),Zh 10 44 36 0 (.len (Zt 43)),Zh 11 45 36 0 (Zj 2 42 44),Zh 12 46 36 0 (Zf 1 45),Zh 13 47 36 0 (.load none (Zt 46)),Zh 14 48 36 0 (Za .gtr 37 47),Zo 15 49 (.pick (Zt 36) (Zt 48) Zy)] (Zu 49 (.exit 0) .skip)) (Zr [Zl 0 50 3,Zm 1 51 0,Zm 3 53 6,Zd 4 54 8 (.buildSl 1 1 [Zi 0] [(0,Zt 53)]),Zd 2 52 2 (Zc 63 [Zt 51]),Zd 5 55 30 (.append 1 (Zt 52) (Zt 54)),Zd 6 56 63 (.call (Zt 50) [Zt 55]),Zd 7 57 127 (.not (Zt 56))] (Zu 57 (Zq [Zo 0 5 (.mov Zy)] .ret) .skip)))) (.ops [Zm 0 32 6,Zo 1 33 (Zb .add 32 1),Zm 2 6 33])))))) (Zq [Zo 0 5 (.mov Zw)] .ret))))⟩
def af124:AFunc:=⟨19,[.tmp 4],Zq [Zo 0 4 (.mov (Zn 0))] (.seq (Zq [Zm 0 6 0,Zo 1 7 (.len (Zt 6)),Zo 2 8 (.mov (Zn 0))] (.block 0 (.loop [0,1,7,8] (Zq [Zo 0 9 (Za .lss 8 7)] (.seq (Zu 9 .skip (.exit 0)) (.seq (.block 1 (Zq [Zm 0 10 8,Zm 1 5 10] (Zq [Zm 0 11 1,Zm 1 12 0,Zm 2 13 5,Zo 3 14 (Zj 1 12 13),Zl 4 15 14,Zo 5 16 (Za .eql 11 15)] (Zu 16 (Zq [Zm 0 17 5,Zm 1 4 17] .ret) .skip)))) (.ops [Zo 0 18 (Zb .add 8 1),Zm 1 8 18]))))))) (Zq [Zo 0 4 (.mov (Zn (-1)))] .ret))⟩
def af132:AFunc:=⟨9,[],Zq [Zm 0 4 0,Zo 1 5 (.not (Zt 4))] (Zu 5 (.ops [Zm 0 6 1,Zo 1 7 (.build [Zi 0] [(0,(1,Zt 6))]),Zo 2 8 (.iface 161 (Zt 7)),Zs 3 (.panic (Zt 8))]) .skip)⟩
def af134:AFunc:=⟨14,[.tmp 4],Zq [Zo 0 4 (.mov Zy)] (Zq [Zm 0 5 1,Zm 1 6 0,Zo 2 7 (.nilck (Zt 6)),Zo 3 8 (Zf 0 7),Zo 4 9 (Zf 0 8),Zl 5 10 9,Zo 6 11 (.len (Zt 10)),Zo 7 12 (Zb .sub 11 1),Zo 8 13 (Zc 133 [Zt 5,Zn 0,Zt 12]),Zm 9 4 13] .ret)⟩
def af135:AFunc:=⟨9,[.cell 4 none],Zq [Zo 0 4 (.alloc [.bool false])] (.seq (Zq [Zm 0 5 0,Zm 1 6 1,Zo 2 7 (Zc 137 [Zt 5,Zt 6])] (.block 0 (.rangeF (Zt 7) [8] .skip (.block 1 (Zq [Zs 0 (.store 1 (Zt 4) Zw)] .ret))))) (Zq [Zs 0 (.store 1 (Zt 4) Zy)] .ret))⟩
def af136:AFunc:=⟨11,[.tmp 2],Zq [Zo 0 2 (.mov (.val (.int .u64 0)))] (Zq [Zm 0 3 0,Zo 1 4 (.nilck (Zt 3)),Zo 2 5 (Zf 0 4),Zo 3 6 (Zf 1 5),Zl 4 7 6,Zo 5 8 (.len (Zt 7)),Zo 6 9 (.bin .shl (.val (.int .u64 1)) (Zt 8)),Zo 7 10 (.bin .sub (Zt 9) (.val (.int .u64 1))),Zm 8 2 10] .ret)⟩
def af138:AFunc:=⟨9,[.tmp 4],Zq [Zo 0 4 (.mov Zy)] (Zq [Zm 0 5 0,Zm 1 6 1,Zo 2 7 (Zc 160 [Zt 5,Zt 6]),Zo 3 8 (Zb .geq 7 0),Zm 4 4 8] .ret)⟩
def af139:AFunc:=⟨34,[.cell 8 none],Zq [Zo 0 4 (.box (Zt 0)),Zo 1 5 (.box (Zt 1)),Zo 2 6 (.box (Zt 2)),Zo 3 7 (.box (Zt 3)),Zo 4 8 (.alloc [.nils])] (.seq (Zq [Zl 0 11 4,Zl 1 12 5,Zo 2 13 (Zc 161 [Zt 11,Zt 12])] (.block 0 (.rangeF (Zt 13) [14] (.ops [Zo 0 9 (.alloc [Zi 0,Zi 0,Zi 0]),Zs 1 (.store 3 (Zt 9) (Zt 14))]) (.block 1 (Zq [Zl 0 15 4,Zo 1 16 (Zg 10 6),Zl 2 17 5,Zo 3 18 (Zg 3 9),Zl 4 19 7,Zo 5 20 (.build [Zi 0,Zi 0,Zi 0,Zi 0,Zi 0,Zi 0,Zi 0,Zi 0,Zi 0,Zi 0,Zi 0,Zi 0,Zi 0,Zi 0,.int .u64 0] [(0,(10,Zt 16)),(10,(1,Zt 17)),(11,(3,Zt 18)),(14,(1,Zt 19))]),Zo 6 21 (Zc 162 [Zt 15,Zt 20]),Zo 7 10 (.alloc [Zi 0,Zi 0]),Zs 8 (.store 2 (Zt 10) (Zt 21))] (Zq [Zo 0 22 (Zf 0 10),Zl 1 23 22,Zo 2 24 (Zf 1 10),Zl 3 25 24,Zo 4 26 (Za .leq 23 25)] (Zu 26 (.ops [Zl 0 27 8,Zo 1 28 (Zg 3 9),Zo 2 29 (Zg 2 10),Zo 3 30 (.build [Zi 0,Zi 0,Zi 0,Zi 0,Zi 0] [(0,(3,Zt 28)),(3,(2,Zt 29))]),Zo 4 31 (.buildSl 5 1 [Zi 0,Zi 0,Zi 0,Zi 0,Zi 0] [(0,Zt 30)]),Zo 5 32 (.append 5 (Zt 27) (Zt 31)),Zs 6 (.store 1 (Zt 8) (Zt 32))]) .skip))))))) (Zq [Zl 0 33 8,Zs 1 (.store 1 (Zt 8) (Zt 33))] .ret))⟩
def af146:AFunc:=⟨3,[.tmp 2],Zq [Zo 0 2 (.mov Zy)] (Zq [Zo 0 2 (.mov Zw)] .ret)⟩
def af147:AFunc:=⟨11,[.cell 6 (some 2)],Zq [Zo 0 3 (.box (Zt 0)),Zo 1 5 (.box (Zt 2)),Zo 2 6 (.alloc [Zi 0,Zi 0])] (Zq [Zl 0 7 3,Zm 1 8 1,Zo 2 9 (.mkfn (Fn.func 167) [] [Zt 3,Zt 5]),Zo 3 10 (Zc 166 [Zt 7,Zt 8,Zt 9]),Zs 4 (.store 2 (Zt 6) (Zt 10))] .ret)⟩
def af149:AFunc:=⟨27,[],Zq [Zo 0 6 (.mov (Zn 0))] (.block 0 (.loop [0,1,6] (Zq [Zo 0 7 (Zb .lss 6 4)] (.seq (Zu 7 .skip (.exit 0)) (.seq (.block 1 (Zq [Zm 0 8 6,Zm 1 3 8] (Zq [Zl 0 9 1,Zo 1 10 (.len (Zt 9)),Zo 2 11 (.mov (Zn 0))] (.block 2 (.loop [0,1,3,6,9,10,11] (Zq [Zo 0 12 (Za .lss 11 10)] (.seq (Zu 12 .skip (.exit 2)) (.seq (.block 3 (Zq [Zm 0 13 11,Zo 1 14 (Zj 1 9 11),Zl 2 15 14,Zm 3 4 13,Zm 4 5 15] (Zq [Zm 0 16 5,Zm 1 17 3,Zo 2 18 (Za .eql 16 17),Zm 3 19 18,Zh 4 20 19 0 (.mov (Zt 0)),Zh 5 21 19 0 (.mov (Zt 4)),Zh 6 22 19 0 (.call (Zt 20) [Zt 21]),Zh 7 23 19 0 (.not (Zt 22)),Zo 8 24 (.pick (Zt 19) (Zt 23) Zy)] (Zu 24 .ret .skip)))) (.ops [Zo 0 25 (Zb .add 11 1),Zm 1 11 25]))))))))) (.ops [Zo 0 26 (Zb .add 6 1),Zm 1 6 26]))))))⟩
def af152:AFunc:=⟨17,[.tmp 4,.tmp 5],Zq [Zo 0 4 (.mov (.val (.int .u32 0))),Zo 1 5 (.mov (.val (.int .u32 0)))] (Zq [Zm 0 7 0,Zo 1 8 (.conv .u64 (Zt 7)),Zm 2 9 1,Zo 3 10 (.conv .u64 (Zt 9)),Zo 4 11 (Za .mul 8 10),Zm 5 6 11] (Zq [Zm 0 12 6,Zo 1 13 (.bin .shr (Zt 12) (.val (.int .u64 32))),Zo 2 14 (.conv .u32 (Zt 13)),Zm 3 15 6,Zo 4 16 (.conv .u32 (Zt 15)),Zm 5 4 14,Zm 6 5 16] .ret))⟩
def af158:AFunc:=⟨30,[],Zq [Zo 0 3 (.box (Zt 0))] (.seq .skip (Zq [Zl 0 6 1,Zo 1 7 (Zc 159 [Zt 6])] (.block 0 (.rangeF (Zt 7) [8] (.ops [Zo 0 4 (.alloc [Zi 0,Zi 0,Zi 0,Zi 0,Zi 0,Zi 0,Zi 0,Zi 0,Zi 0,Zi 0]),Zs 1 (.store 10 (Zt 4) (Zt 8))]) (.block 1 (.seq (Zq [Zl 0 9 1,Zo 1 10 (.nilck (Zt 9)),Zo 2 11 (Zf 0 10),Zo 3 12 (Zf 0 11),Zl 4 13 12,Zo 5 14 (.len (Zt 13)),Zo 6 15 (.mov (Zn 0))] (.block 2 (.loop [1,2,3,4,14,15] (Zq [Zo 0 16 (Za .lss 15 14)] (.seq (Zu 16 .skip (.exit 2)) (.seq (.block 3 (Zq [Zm 0 17 15,Zm 1 5 17] (Zq [Zl 0 18 1,Zm 1 19 5,Zo 2 20 (Zg 10 4),Zl 3 21 2,Zo 4 22 (Zc 139 [Zt 18,Zt 19,Zt 20,Zt 21]),Zo 5 23 (.len (Zt 22)),Zo 6 24 (Zb .eql 23 0)] (Zu 24 (.exit 1) .skip)))) (.ops [Zo 0 25 (Zb .add 15 1),Zm 1 15 25]))))))) (Zq [Zl 0 26 3,Zo 1 27 (Zg 10 4),Zo 2 28 (.call (Zt 26) [Zt 27]),Zo 3 29 (.not (Zt 28))] (Zu 29 .ret .skip))))))))⟩
def af159:AFunc:=⟨4,[.tmp 2],Zq [Zo 0 1 (.box (Zt 0)),Zo 1 2 (.mov (.val .nilfn))] (Zq [Zo 0 3 (.mkfn (Fn.func 172) [] [Zt 1]),Zm 1 2 3] .ret)⟩
def af161:AFunc:=⟨6,[.tmp 4],Zq [Zo 0 2 (.box (Zt 0)),Zo 1 3 (.box (Zt 1)),Zo 2 4 (.mov (.val .nilfn))] (Zq [Zo 0 5 (.mkfn (Fn.func 174) [] [Zt 2,Zt 3]),Zm 1 4 5] .ret)⟩
def af163:AFunc:=⟨16,[.tmp 6],Zq [Zo 0 3 (.box (Zt 0)),Zo 1 6 (.mov (Zn 0))] (Zq [Zo 0 7 (Zf 2 3),Zl 1 8 7,Zm 2 9 1,Zm 3 10 2,Zo 4 11 (Zf 1 3),Zl 5 12 11,Zo 6 13 (Za .mul 10 12),Zo 7 14 (Za .add 9 13),Zo 8 15 (.min [Zt 8,Zt 14]),Zm 9 6 15] .ret)⟩
def af165:AFunc:=⟨13,[.tmp 4],Zq [Zo 0 2 (.box (Zt 0)),Zo 1 4 (.mov (Zn 0))] (Zq [Zm 0 5 1,Zo 1 6 (Zf 0 2),Zl 2 7 6,Zo 3 8 (Za .add 5 7),Zo 4 9 (Zb .sub 8 1),Zo 5 10 (Zf 0 2),Zl 6 11 10,Zo 7 12 (Za .quo 9 11),Zm 8 4 12] .ret)⟩
def af173:AFunc:=⟨67,[.tmp 6],Zq [Zo 0 6 (.mov Zy)] (.seq (Zq [Zm 0 8 0,Zl 1 9 1,Zo 2 10 (.nilck (Zt 9)),Zo 3 11 (Zf 0 10),Zo 4 12 (Zf 1 11),Zl 5 13 12,Zo 6 14 (.len (Zt 13)),Zo 7 15 (Za .eql 8 14)] (Zu 15 (Zq [Zl 0 16 2,Zo 1 17 (Zg 10 3),Zo 2 18 (.call (Zt 16) [Zt 17]),Zm 3 6 18] .ret) .skip)) (.seq (Zq [Zl 0 19 1,Zo 1 20 (.nilck (Zt 19)),Zo 2 21 (Zf 0 20),Zo 3 22 (Zf 1 21),Zl 4 23 22,Zm 5 24 0,Zo 6 25 (Zj 7 23 24),Zo 7 26 (Zf 0 25),Zl 8 27 26,Zo 9 28 (Zb .neq 27 0)] (Zu 28 (Zq [Zm 0 29 0,Zo 1 30 (.indexA 1 (some 10) (Zt 3) (Zt 29)),Zs 2 (.store 1 (Zt 30) (Zn 0))] (Zq [Zl 0 31 4,Zm 1 32 0,Zo 2 33 (Zb .add 32 1),Zo 3 34 (.call (Zt 31) [Zt 33]),Zm 4 6 34] .ret)) .skip)) (.seq (Zq [Zl 0 35 1,Zo 1 36 (.nilck (Zt 35)),Zo 2 37 (Zf 0 36),Zo 3 38 (Zf 1 37),Zl 4 39 38,Zm 5 40 0,Zo 6 41 (Zj 7 39 40),Zo 7 42 (Zf 1 41),Zo 8 43 (Zf 0 42),Zl 9 44 43,Zm 10 7 44] (.block 0 (.loop [0,1,3,4,7] (.seq (Zq [Zm 0 45 7,Zl 1 46 1,Zo 2 47 (.nilck (Zt 46)),Zo 3 48 (Zf 0 47),Zo 4 49 (Zf 1 48),Zl 5 50 49,Zm 6 51 0,Zo 7 52 (Zj 7 50 51),Zo 8 53 (Zf 1 52),Zo 9 54 (Zf 1 53),Zl 10 55 54,Zo 11 56 (Za .leq 45 55)] (Zu 56 .skip (.exit 0))) (.seq (.block 1 (Zq [Zm 0 59 0,Zm 1 60 7,Zo 2 61 (.indexA 1 (some 10) (Zt 3) (Zt 59)),Zs 3 (.store 1 (Zt 61) (Zt 60))] (Zq [Zl 0 62 4,Zm 1 63 0,Zo 2 64 (Zb .add 63 1),Zo 3 65 (.call (Zt 62) [Zt 64]),Zo 4 66 (.not (Zt 65))] (Zu 66 (Zq [Zo 0 6 (.mov Zy)] .ret) .skip)))) (.ops [Zm 0 57 7,Zo 1 58 (Zb .add 57 1),Zm 2 7 58])))))) (Zq [Zo 0 6 (.mov Zw)] .ret))))⟩
def af174:AFunc:=⟨43,[],Zr [Zl 0 7 1,Zd 1 8 1 (.nilck (Zt 7)),Zd 2 9 3 (Zf 0 8),Zd 3 10 7 (Zf 0 9),Zd 4 11 15 (.load none (Zt 10)),Zl 5 12 2,Zd 6 13 63 (Zj 7 11 12),Zd 7 14 127 (Zg 7 13),Zo 8 4 (.alloc [Zi 0,Zi 0,Zi 0,Zi 0,Zi 0,Zi 0,Zi 0]),Ze 9 511 (.store 7 (Zt 4) (Zt 14))] (.seq .skip (Zq [Zo 0 15 (Zf 2 4),Zo 1 16 (Zf 0 15),Zl 2 17 16,Zm 3 5 17] (.block 0 (.loop [0,4,5] (.seq (Zq [Zm 0 18 5,Zo 1 19 (Zf 2 4),Zo 2 20 (Zf 1 19),Zl 3 21 20,Zo 4 22 (Za .leq 18 21)] (Zu 22 .skip (.exit 0))) (.seq (.block 1 (Zq [Zo 0 25 (Zf 4 4),Zo 1 26 (Zf 0 25),Zl 2 27 26,Zm 3 6 27] (.block 2 (.loop [0,4,5,6] (.seq (Zq [Zm 0 28 6,Zo 1 29 (Zf 4 4),Zo 2 30 (Zf 1 29),Zl 3 31 30,Zo 4 32 (Za .leq 28 31)] (Zu 32 .skip (.exit 2))) (.seq (.block 3 (Zq [Zm 0 35 0,Zm 1 36 5,Zm 2 37 6,Zo 3 38 (Zf 6 4),Zl 4 39 38,Zo 5 40 (.build [Zi 0,Zi 0,Zi 0] [(0,(1,Zt 36)),(1,(1,Zt 37)),(2,(1,Zt 39))]),Zo 6 41 (.call (Zt 35) [Zt 40]),Zo 7 42 (.not (Zt 41))] (Zu 42 (.exit 0) .skip))) (.ops [Zm 0 33 6,Zo 1 34 (Zb .add 33 1),Zm 2 6 34]))))))) (.ops [Zm 0 23 5,Zo 1 24 (Zb .add 23 1),Zm 2 5 24])))))))⟩
def af175:AFunc:=⟨28,[.cell 2 (some 2)],Zq [Zo 0 2 (.alloc [Zi 0,Zi 0])] (.seq (Zq [Zm 0 5 0,Zo 1 6 (.len (Zt 5)),Zo 2 7 (.mov (Zn 0))] (.block 0 (.loop [2,5,6,7] (Zq [Zo 0 8 (Za .lss 7 6)] (.seq (Zu 8 .skip (.exit 0)) (.seq (.block 1 (Zq [Zm 0 9 7,Zo 1 10 (Zj 2 5 7),Zo 2 11 (Zg 2 10),Zo 3 4 (.alloc [Zi 0,Zi 0]),Zm 4 3 9,Zs 5 (.store 2 (Zt 4) (Zt 11))] (.seq (Zq [Zm 0 12 3,Zo 1 13 (Zb .eql 12 0)] (Zu 13 (.ops [Zo 0 14 (Zg 2 4),Zs 1 (.store 2 (Zt 2) (Zt 14))]) .skip)) (.ops [Zo 0 15 (Zf 0 2),Zl 1 16 15,Zo 2 17 (Zf 0 4),Zl 3 18 17,Zo 4 19 (.min [Zt 16,Zt 18]),Zo 5 20 (Zf 1 2),Zl 6 21 20,Zo 7 22 (Zf 1 4),Zl 8 23 22,Zo 9 24 (.max [Zt 21,Zt 23]),Zo 10 25 (.build [Zi 0,Zi 0] [(0,(1,Zt 19)),(1,(1,Zt 24))]),Zs 11 (.store 2 (Zt 2) (Zt 25))])))) (.ops [Zo 0 26 (Zb .add 7 1),Zm 1 7 26]))))))) (Zq [Zo 0 27 (Zg 2 2),Zs 1 (.store 2 (Zt 2) (Zt 27))] .ret))⟩
def af198:AFunc:=⟨10,[.tmp 8],Zq [Zo 0 4 (.box (Zt 0)),Zo 1 5 (.box (Zt 1)),Zo 2 8 (.mov (Zn 0))] (Zq [Zm 0 9 2,Zm 1 8 9] .ret)⟩
def af201:AFunc:=⟨3,[.tmp 2],Zq [Zo 0 1 (.box (Zt 0)),Zo 1 2 (.mov (Zn 0))] (Zq [Zo 0 2 (.mov (Zn 1))] .ret)⟩
def af202:AFunc:=⟨13,[.tmp 8],Zq [Zo 0 4 (.box (Zt 0)),Zo 1 6 (.box (Zt 2)),Zo 2 8 (.mov Zy)] (Zq [Zm 0 9 1,Zo 1 10 (Zg 7 6),Zo 2 11 (Zc 204 [Zt 9,Zt 10]),Zo 3 12 (.not (Zt 11)),Zm 4 8 12] .ret)⟩
def af204:AFunc:=⟨46,[.tmp 4],Zq [Zo 0 3 (.box (Zt 1)),Zo 1 4 (.mov Zy)] (.seq (Zr [Zm 0 10 0,Zd 1 11 1 (.nilck (Zt 10)),Zd 2 12 3 (Zf 4 11),Zd 3 13 7 (.load none (Zt 12)),Zo 4 14 (Zg 7 3),Zd 5 15 31 (.lookup (.agg [true,true,true,true,true,true,true]) true (.bool false) (Zt 13) (Zt 14)),Zd 6 9 63 (.mov (Zt 15)),Zd 7 16 127 (Zx 9 0),Zd 8 17 127 (Zx 9 1),Zd 9 5 255 (.mov (Zt 16)),Zd 10 6 1023 (.mov (Zt 17))] (Zq [Zm 0 18 6] (Zu 18 (Zq [Zm 0 19 5,Zm 1 4 19] .ret) .skip))) (Zr [Zm 0 21 0,Zo 1 22 (Zg 7 3),Zo 3 24 (Zf 5 3),Zd 4 25 8 (.load none (Zt 24)),Zd 2 23 3 (Zc 205 [Zt 21,Zt 22]),Zd 5 26 31 (Zc 36 [Zt 23,Zt 25]),Zd 6 20 63 (.mov (Zt 26)),Zd 7 27 127 (Zx 20 0),Zd 8 28 127 (Zx 20 1),Zd 9 7 255 (.mov (Zt 27)),Zd 10 8 1023 (.mov (Zt 28))] (Zr [Zm 0 29 0,Zd 1 30 1 (.nilck (Zt 29)),Zd 2 31 3 (Zf 4 30),Zd 3 32 7 (.load none (Zt 31)),Zo 4 33 (Zg 7 3),Zm 5 34 8,Zd 6 35 32 (Zb .eql 34 0),Zd 7 36 96 (.mov (Zt 35)),Zh 8 37 36 224 (.mov (Zt 7)),Zh 9 38 36 480 (Zb .eql 37 2),Zd 10 39 992 (.pick (Zt 36) (Zt 38) Zy),Ze 11 2047 (.mapupd (.agg [true,true,true,true,true,true,true]) (Zt 32) (Zt 33) (Zt 39))] (Zr [Zm 0 40 0,Zd 1 41 1 (.nilck (Zt 40)),Zd 2 42 3 (Zf 4 41),Zd 3 43 7 (.load none (Zt 42)),Zo 4 44 (Zg 7 3),Zd 5 45 31 (.lookup (.agg [true,true,true,true,true,true,true]) false (.bool false) (Zt 43) (Zt 44)),Zd 6 4 63 (.mov (Zt 45))] .ret))))⟩
def af16:AFunc:=⟨25,[.tmp 2,.tmp 3,.cell 4 none],Zq [Zo 0 1 (.box (Zt 0)),Zo 1 2 (.mov (.val .nils)),Zo 2 3 (.mov (Zn 0)),Zo 3 4 (.alloc [Zi 0])] (Zq [Zo 0 9 (.mkfn (Fn.func 58) [] [Zt 4]),Zs 1 (.defer (Zt 9) [])] (Zq [Zo 0 10 (Zg 4 1),Zo 1 11 (Zc 50 [Zt 10,.val (.fn (Fn.func 59) [] [])]),Zm 2 5 11] (Zq [Zm 0 13 5,Zo 1 14 (Zc 61 [Zt 13]),Zm 2 15 5,Zo 3 16 (.mkfn (Fn.func 62) [Zt 15] []),Zo 4 17 (.build [.nilfn] [(0,(1,Zt 16))]),Zo 5 18 (Zc 60 [Zt 14,Zt 17]),Zm 6 12 18,Zo 7 19 (Zx 12 0),Zo 8 20 (Zx 12 1),Zo 9 21 (Zx 12 2),Zm 10 6 19,Zm 11 7 20,Zm 12 8 21] (Zq [Zm 0 22 6,Zo 1 23 (Zc 63 [Zt 22]),Zm 2 24 7,Zm 3 2 23,Zm 4 3 24,Zs 5 (.store 1 (Zt 4) (Zn 0))] .ret))))⟩
def af18:AFunc:=⟨32,[.tmp 2,.cell 3 none],Zq [Zo 0 1 (.box (Zt 0)),Zo 1 2 (.mov (Zn 0)),Zo 2 3 (.alloc [Zi 0])] (Zq [Zo 0 9 (.mkfn (Fn.func 66) [] [Zt 3]),Zs 1 (.defer (Zt 9) [])] (Zq [Zo 0 10 (Zg 4 1),Zo 1 11 (Zc 50 [Zt 10,.val (.fn (Fn.func 59) [] [])]),Zo 2 4 (.alloc [.nilp]),Zs 3 (.store 1 (Zt 4) (Zt 11))] (Zq [Zo 0 12 (.mkfn (Fn.func 67) [] [Zt 4]),Zm 1 5 12] (Zq [Zl 0 14 4,Zo 1 15 (Zc 61 [Zt 14]),Zm 2 16 5,Zo 3 17 (.build [.nilfn] [(0,(1,Zt 16))]),Zo 4 18 (Zc 60 [Zt 15,Zt 17]),Zm 5 13 18,Zo 6 19 (Zx 13 0),Zo 7 20 (Zx 13 1),Zo 8 21 (Zx 13 2),Zm 9 6 19,Zm 10 7 20,Zm 11 8 21] (Zq [Zm 0 22 7,Zo 1 23 (Zb .geq 22 0),Zo 2 24 (Zc 54 [Zt 23,Zn 4])] (Zq [Zl 0 25 4,Zo 1 26 (.nilck (Zt 25)),Zo 2 27 (Zf 0 26),Zo 3 28 (Zf 2 27),Zl 4 29 28,Zm 5 30 7,Zo 6 31 (Za .sub 29 30),Zm 7 2 31,Zs 8 (.store 1 (Zt 3) (Zn 0))] .ret))))))⟩
def af20:AFunc:=⟨33,[.tmp 4,.cell 5 none],Zq [Zo 0 2 (.box (Zt 0)),Zo 1 3 (.box (Zt 1)),Zo 2 4 (.mov (Zn 0)),Zo 3 5 (.alloc [Zi 0])] (Zq [Zo 0 9 (.mkfn (Fn.func 71) [] [Zt 5]),Zs 1 (.defer (Zt 9) [])] (Zq [Zo 0 10 (Zg 4 2),Zo 1 11 (.mkfn (Fn.func 72) [] [Zt 3]),Zo 2 12 (Zc 50 [Zt 10,Zt 11]),Zm 3 6 12] (Zq [Zo 0 13 (.buildSl 1 1 [Zi 0] [(0,Zn (-1))]),Zo 1 14 (Zf 3 2),Zl 2 15 14,Zo 3 16 (.len (Zt 15)),Zo 4 17 (Zc 74 [Zt 13,Zt 16]),Zm 5 7 17] (.seq (Zq [Zo 0 18 (Zf 2 2),Zl 1 19 18,Zo 2 20 (.mov (Zn 0))] (.block 0 (.loop [3,4,5,6,7,19,20] (Zq [Zo 0 21 (Za .lss 20 19)] (.seq (Zu 21 .skip (.exit 0)) (.seq (.block 1 (Zq [Zm 0 22 20,Zm 1 8 22] (Zq [Zm 0 23 7,Zl 1 24 3,Zm 2 25 8,Zo 3 26 (Zj 1 23 24),Zs 4 (.store 1 (Zt 26) (Zt 25))] (Zq [Zm 0 27 6,Zm 1 28 7,Zo 2 29 (Zc 75 [Zt 27,Zt 28])] (Zu 29 (Zq [Zm 0 30 8,Zm 1 4 30,Zs 2 (.store 1 (Zt 5) (Zn 0))] .ret) .skip))))) (.ops [Zo 0 31 (Zb .add 20 1),Zm 1 20 31]))))))) (Zq [Zo 0 32 (Zc 54 [Zy,Zn 4])] (Zq [Zo 0 4 (.mov (Zn 0)),Zs 1 (.store 1 (Zt 5) (Zn 0))] .ret))))))⟩
def af27:AFunc:=⟨49,[.tmp 6,.cell 7 none],Zq [Zo 0 3 (.box (Zt 0)),Zo 1 4 (.box (Zt 1)),Zo 2 5 (.box (Zt 2)),Zo 3 6 (.mov (Zn 0)),Zo 4 7 (.alloc [Zi 0])] (Zq [Zo 0 13 (.mkfn (Fn.func 88) [] [Zt 7]),Zs 1 (.defer (Zt 13) [])] (Zq [Zo 0 14 (Zg 4 3),Zo 1 15 (.mkfn (Fn.func 89) [] [Zt 4,Zt 5]),Zo 2 16 (Zc 50 [Zt 14,Zt 15]),Zm 3 8 16] (Zq [Zm 0 17 8,Zl 1 18 4,Zo 2 19 (Zc 75 [Zt 17,Zt 18]),Zo 3 20 (Zc 54 [Zt 19,Zn 6])] (Zr [Zl 0 21 4,Zl 2 23 5,Zd 3 24 4 (.buildSl 1 1 [Zi 0] [(0,Zt 23)]),Zd 1 22 1 (Zc 63 [Zt 21]),Zd 4 25 15 (.append 1 (Zt 22) (Zt 24)),Zd 5 9 31 (.mov (Zt 25))] (.seq (Zq [Zo 0 10 (.mov (Zn 60))] (.block 0 (.loop [3,6,7,9,10] (.seq (Zq [Zm 0 26 10,Zo 1 27 (Zb .geq 26 0)] (Zu 27 .skip (.exit 0))) (.seq (.block 1 (Zq [Zo 0 30 (Zg 4 3),Zo 1 11 (.alloc [.nils,.nils,Zi 0,.nils]),Zs 2 (.store 4 (Zt 11) (Zt 30))] (Zr [Zo 0 31 (Zf 3 3),Zd 1 32 1 (.load none (Zt 31)),Zm 3 34 10,Zo 4 35 (Zf 2 3),Zd 5 36 16 (.load none (Zt 35)),Zd 6 37 48 (Zb .sub 36 1),Zd 7 38 120 (.build [Zi 0,Zi 0] [(0,(1,Zt 34)),(1,(1,Zt 37))]),Zd 8 39 248 (.buildSl 2 1 [Zi 0,Zi 0] [(0,Zt 38)]),Zd 2 33 3 (Zc 91 [Zt 32]),Zd 9 40 511 (.append 2 (Zt 33) (Zt 39)),Zd 10 41 1023 (Zf 3 11),Ze 11 2047 (.store 1 (Zt 41) (Zt 40))] (Zq [Zo 0 42 (Zg 4 11),Zo 1 43 .mkmap,Zo 2 44 (.build [.nils,.nils,Zi 0,.nils,.nilmap] [(0,(4,Zt 42)),(4,(1,Zt 43))]),Zo 3 12 (.alloc [.nils,.nils,Zi 0,.nils,.nilmap]),Zs 4 (.store 5 (Zt 12) (Zt 44))] (Zq [Zm 0 45 9,Zo 1 46 (Zc 75 [Zt 12,Zt 45])] (Zu 46 (Zq [Zm 0 47 10,Zm 1 6 47,Zs 2 (.store 1 (Zt 7) (Zn 0))] .ret) .skip)))))) (.ops [Zm 0 28 10,Zo 1 29 (Zb .sub 28 1),Zm 2 10 29])))))) (Zq [Zo 0 48 (Zc 54 [Zy,Zn 4])] (Zq [Zo 0 6 (.mov (Zn 0)),Zs 1 (.store 1 (Zt 7) (Zn 0))] .ret)))))))⟩
def af53:AFunc:=⟨54,[.cell 4 none,.cell 5 none],Zq [Zo 0 2 (.box (Zt 0)),Zo 1 3 (.box (Zt 1)),Zo 2 4 (.alloc [Zi 0]),Zo 3 5 (.alloc [Zi 0])] (Zq [Zo 0 6 (.alloc [Zi 0,Zi 0,Zi 0,Zi 0,Zi 0,Zi 0,Zi 0])] (.seq (Zq [Zo 0 11 (.mov (Zn 0))] (.block 0 (.loop [2,3,4,5,6,11] (Zq [Zo 0 12 (Zb .lss 11 5)] (.seq (Zu 12 .skip (.exit 0)) (.seq (.block 1 (Zq [Zm 0 13 11,Zm 1 7 13] (.ops [Zm 0 14 7,Zo 1 15 (Zf 0 6),Zo 2 16 (.indexA 1 (some 5) (Zt 15) (Zt 14)),Zs 3 (.store 1 (Zt 16) (Zn (-1)))]))) (.ops [Zo 0 17 (Zb .add 11 1),Zm 1 11 17]))))))) (.seq (Zq [Zl 0 18 3,Zo 1 19 (Zc 116 [Zt 18])] (.block 2 (.rangeF (Zt 19) [20] (.ops [Zm 0 8 20]) (.block 3 (Zr [Zl 0 21 2,Zd 1 22 1 (.nilck (Zt 21)),Zd 2 23 3 (Zf 0 22),Zd 3 24 7 (Zf 3 23),Zd 4 25 15 (.load none (Zt 24)),Zm 5 26 8,Zd 6 27 63 (Zj 2 25 26),Zd 7 28 127 (Zf 0 27),Zd 8 29 255 (.load none (Zt 28)),Zl 9 30 3,Zm 10 31 8,Zd 11 32 1536 (Zj 1 30 31),Zd 12 33 3584 (.load none (Zt 32)),Zd 13 34 511 (Zf 5 6),Ze 14 8703 (.store 1 (Zt 34) (Zt 29)),Zd 15 35 32767 (Zf 6 6),Ze 16 65535 (.store 1 (Zt 35) (Zt 33))] (.seq (Zq [Zo 0 36 (Zc 117 []),Zo 1 37 (.mov (Zn 0))] (.block 4 (.loop [2,4,5,6,8,36,37] (Zq [Zo 0 38 (Zb .lss 37 2)] (.seq (Zu 38 .skip (.exit 4)) (.seq (.block 5 (Zq [Zo 0 39 (.indexV 2 1 none (Zt 36) (Zt 37)),Zm 1 10 39] (Zq [Zm 0 40 10,Zl 1 41 2,Zo 2 42 (Zg 7 6),Zm 3 43 8,Zo 4 44 (.invoke (Zt 40) [(192,202),(190,200)] [Zt 41,Zt 42,Zt 43])] (Zu 44 (Zq [Zm 0 45 8,Zm 1 46 10,Zo 2 47 (.invoke (Zt 46) [(192,203),(190,201)] []),Zs 3 (.store 1 (Zt 4) (Zt 45)),Zs 4 (.store 1 (Zt 5) (Zt 47))] .ret) .skip)))) (.ops [Zo 0 48 (Zb .add 37 1),Zm 1 37 48]))))))) (.ops [Zm 0 49 8,Zo 1 50 (Zf 6 6),Zl 2 51 50,Zo 3 52 (Zf 0 6),Zo 4 53 (.indexA 1 (some 5) (Zt 52) (Zt 49)),Zs 5 (.store 1 (Zt 53) (Zt 51))]))))))) (Zq [Zs 0 (.store 1 (Zt 4) (Zn 0)),Zs 1 (.store 1 (Zt 5) (Zn 0))] .ret))))⟩
def af54:AFunc:=⟨9,[],Zq [Zm 0 4 0,Zo 1 5 (.not (Zt 4))] (Zu 5 (.ops [Zm 0 6 1,Zo 1 7 (.build [Zi 0] [(0,(1,Zt 6))]),Zo 2 8 (.iface 131 (Zt 7)),Zs 3 (.panic (Zt 8))]) .skip)⟩
def af59:AFunc:=⟨3,[.tmp 2],Zq [Zo 0 2 (.mov Zy)] (Zq [Zo 0 2 (.mov Zw)] .ret)⟩
def af60:AFunc:=⟨27,[.cell 4 none,.cell 5 none,.cell 6 none],Zq [Zo 0 3 (.box (Zt 1)),Zo 1 4 (.alloc [.nils]),Zo 2 5 (.alloc [Zi 0]),Zo 3 6 (.alloc [.bool false])] (.seq (Zq [Zm 0 9 0] (.block 0 (.rangeF (Zt 9) [10] (.ops [Zm 0 7 10]) (.block 1 (Zq [Zo 0 11 (Zf 0 3),Zl 1 12 11,Zm 2 13 7,Zo 3 14 (.call (Zt 12) [Zt 13]),Zm 4 8 14] (Zq [Zl 0 15 6,Zo 1 16 (.not (Zt 15)),Zm 2 17 16,Zk 3 18 17 0 (.mov (Zt 8)),Zk 4 19 17 0 (.load none (Zt 5)),Zk 5 20 17 0 (Za .gtr 18 19),Zo 6 21 (.pick (Zt 17) Zw (Zt 20))] (Zu 21 (.ops [Zm 0 22 7,Zm 1 23 8,Zs 2 (.store 1 (Zt 4) (Zt 22)),Zs 3 (.store 1 (Zt 5) (Zt 23)),Zs 4 (.store 1 (Zt 6) Zw)]) .skip))))))) (Zr [Zl 0 24 4,Zl 1 25 5,Zl 2 26 6,Ze 3 1 (.store 1 (Zt 4) (Zt 24)),Ze 4 11 (.store 1 (Zt 5) (Zt 25)),Ze 5 31 (.store 1 (Zt 6) (Zt 26))] .ret))⟩
def af61:AFunc:=⟨4,[.tmp 2],Zq [Zo 0 1 (.box (Zt 0)),Zo 1 2 (.mov (.val .nilfn))] (Zq [Zo 0 3 (.mkfn (Fn.func 120) [] [Zt 1]),Zm 1 2 3] .ret)⟩
def af62:AFunc:=⟨33,[.tmp 4],Zq [Zo 0 4 (.mov (Zn 0))] (Zq [Zo 0 5 (.mov (.val .nils))] (Zq [Zm 0 9 1,Zo 1 10 (.mkfn (Fn.func 87) [Zt 9] []),Zm 2 6 10] (.seq (Zq [Zm 0 11 0,Zo 1 12 (.nilck (Zt 11)),Zo 2 13 (Zf 0 12),Zo 3 14 (Zf 3 13),Zl 4 15 14,Zo 5 16 (.len (Zt 15)),Zo 6 17 (.mov (Zn 0))] (.block 0 (.loop [5,6,15,16,17] (Zq [Zo 0 18 (Za .lss 17 16)] (.seq (Zu 18 .skip (.exit 0)) (.seq (.block 1 (Zq [Zm 0 19 17,Zo 1 20 (Zj 2 15 17),Zo 2 21 (Zg 2 20),Zo 3 8 (.alloc [Zi 0,Zi 0]),Zm 4 7 19,Zs 5 (.store 2 (Zt 8) (Zt 21))] (Zq [Zm 0 22 6,Zm 1 23 7,Zo 2 24 (.call (Zt 22) [Zt 23])] (Zu 24 (.ops [Zm 0 25 5,Zo 1 26 (Zf 0 8),Zl 2 27 26,Zo 3 28 (.buildSl 1 1 [Zi 0] [(0,Zt 27)]),Zo 4 29 (.append 1 (Zt 25) (Zt 28)),Zm 5 5 29]) .skip)))) (.ops [Zo 0 30 (Zb .add 17 1),Zm 1 17 30]))))))) (Zq [Zm 0 31 5,Zo 1 32 (Zc 122 [Zt 31]),Zm 2 4 32] .ret))))⟩
def af68:AFunc:=⟨9,[.tmp 4],Zq [Zo 0 4 (.mov Zy)] (Zq [Zm 0 5 0,Zm 1 6 1,Zo 2 7 (Zc 124 [Zt 5,Zt 6]),Zo 3 8 (Zb .geq 7 0),Zm 4 4 8] .ret)⟩
def af73:AFunc:=⟨14,[.tmp 4],Zq [Zo 0 4 (.mov Zy)] (Zq [Zm 0 5 1,Zm 1 6 0,Zo 2 7 (.nilck (Zt 6)),Zo 3 8 (Zf 0 7),Zo 4 9 (Zf 3 8),Zl 5 10 9,Zo 6 11 (.len (Zt 10)),Zo 7 12 (Zb .sub 11 1),Zo 8 13 (Zc 113 [Zt 5,Zn 0,Zt 12]),Zm 9 4 13] .ret)⟩
def af85:AFunc:=⟨7,[.tmp 3],Zq [Zo 0 3 (.mov Zy)] (Zq [Zm 0 4 0,Zl 1 5 1,Zo 2 6 (Zc 73 [Zt 4,Zt 5]),Zm 3 3 6] .ret)⟩
def af87:AFunc:=⟨10,[.tmp 4],Zq [Zo 0 4 (.mov Zy)] (Zq [Zm 0 5 0,Zm 1 6 1,Zo 2 7 (Zj 1 5 6),Zl 3 8 7,Zo 4 9 (Zb .neq 8 (-1)),Zm 5 4 9] .ret)⟩
def af90:AFunc:=⟨13,[.tmp 4],Zq [Zo 0 4 (.mov Zy)] (Zq [Zm 0 5 1,Zm 1 6 0,Zo 2 7 (.nilck (Zt 6)),Zo 3 8 (Zf 0 7),Zo 4 9 (Zf 2 8),Zl 5 10 9,Zo 6 11 (Zb .sub 10 1),Zo 7 12 (Zc 113 [Zt 5,Zn 0,Zt 11]),Zm 8 4 12] .ret)⟩
def af91:AFunc:=⟨8,[.tmp 2],Zq [Zo 0 2 (.mov (.val .nils))] (.seq (Zq [Zm 0 3 0,Zo 1 4 (.isnil false (Zt 3))] (Zu 4 (Zq [Zo 0 2 (.mov (.val .nils))] .ret) .skip)) (Zq [Zo 0 5 (.buildSl 2 0 [Zi 0,Zi 0] []),Zm 1 6 0,Zo 2 7 (.append 2 (Zt 5) (Zt 6)),Zm 3 2 7] .ret))⟩
def af100:AFunc:=⟨6,[.tmp 3],Zq [Zo 0 3 (.mov Zy)] (Zq [Zl 0 4 1,Zo 1 5 (Zc 101 [Zt 4]),Zm 2 3 5] .ret)⟩
def af101:AFunc:=⟨5,[.tmp 2],Zq [Zo 0 2 (.mov Zy)] (Zq [Zm 0 3 0,Zo 1 4 (Zc 133 [Zt 3,Zn 0,Zn 60]),Zm 2 2 4] .ret)⟩
def af102:AFunc:=⟨9,[.tmp 2],Zq [Zo 0 2 (.mov (.val .nilp))] (Zq [Zm 0 3 0,Zm 1 4 0,Zo 2 5 (Zc 136 [Zt 4]),Zo 3 6 (Zc 135 [Zt 3,Zt 5]),Zo 4 7 (Zc 132 [Zt 6,Zn 10])] (Zq [Zm 0 8 0,Zm 1 2 8] .ret))⟩
def af104:AFunc:=⟨31,[.cell 4 none],Zq [Zo 0 2 (.box (Zt 0)),Zo 1 3 (.box (Zt 1)),Zo 2 4 (.alloc [.bool false])] (.seq .skip (.seq (Zr [Zl 0 7 2,Zl 1 8 2,Zd 2 9 2 (Zc 136 [Zt 8]),Zd 3 10 7 (Zc 137 [Zt 7,Zt 9])] (.block 0 (.rangeF (Zt 10) [11] (.ops [Zo 0 5 (.alloc [Zi 0,Zi 0,Zi 0,Zi 0,Zi 0,Zi 0,Zi 0,Zi 0,Zi 0,Zi 0]),Zs 1 (.store 10 (Zt 5) (Zt 11))]) (.block 1 (.seq (Zq [Zl 0 12 2,Zo 1 13 (.nilck (Zt 12)),Zo 2 14 (Zf 0 13),Zo 3 15 (Zf 0 14),Zl 4 16 15,Zo 5 17 (.len (Zt 16)),Zo 6 18 (.mov (Zn 0))] (.block 2 (.loop [2,3,4,5,17,18] (Zq [Zo 0 19 (Za .lss 18 17)] (.seq (Zu 19 .skip (.exit 2)) (.seq (.block 3 (Zq [Zm 0 20 18,Zm 1 6 20] (Zr [Zl 0 21 2,Zm 1 22 6,Zo 2 23 (Zg 10 5),Zl 3 24 2,Zo 6 27 (.mkfn (Fn.func 142) [] [Zt 2,Zt 5,Zt 3]),Zd 4 25 8 (Zc 136 [Zt 24]),Zd 5 26 31 (Zc 139 [Zt 21,Zt 22,Zt 23,Zt 25]),Zd 7 28 127 (Zc 138 [Zt 26,Zt 27]),Zd 8 29 255 (.not (Zt 28))] (Zu 29 (.exit 1) .skip)))) (.ops [Zo 0 30 (Zb .add 18 1),Zm 1 18 30]))))))) (Zq [Zs 0 (.store 1 (Zt 4) Zw)] .ret)))))) (Zq [Zs 0 (.store 1 (Zt 4) Zy)] .ret)))⟩
def af112:AFunc:=⟨37,[.tmp 2,.cell 3 none],Zq [Zo 0 1 (.box (Zt 0)),Zo 1 2 (.mov (Zn 0)),Zo 2 3 (.alloc [Zi 0])] (Zq [Zo 0 9 (.mkfn (Fn.func 145) [] [Zt 3]),Zs 1 (.defer (Zt 9) [])] (Zq [Zo 0 10 (Zg 2 1),Zo 1 11 (Zc 99 [Zt 10,.val (.fn (Fn.func 146) [] [])]),Zo 2 12 (Zc 102 [Zt 11]),Zm 3 4 12] (Zq [Zo 0 5 (.mov (Zn 0)),Zo 1 6 (.mov (Zn 0))] (.seq (Zq [Zo 0 13 (Zf 0 1),Zl 1 14 13,Zo 2 15 (.len (Zt 14)),Zo 3 16 (.mov (Zn 0))] (.block 0 (.loop [1,3,4,5,6,15,16] (Zq [Zo 0 17 (Za .lss 16 15)] (.seq (Zu 17 .skip (.exit 0)) (.seq (.block 1 (Zq [Zm 0 18 16,Zm 1 7 18] (Zq [Zm 0 19 4,Zm 1 20 7,Zo 2 21 (Zf 1 1),Zl 3 22 21,Zo 4 23 (.len (Zt 22)),Zo 5 24 (Zc 147 [Zt 19,Zt 20,Zt 23]),Zo 6 25 (.fieldV 0 none (Zt 24)),Zm 7 8 25] (Zq [Zm 0 26 7,Zo 1 27 (Zb .eql 26 0),Zm 2 28 27,Zk 3 29 28 0 (.mov (Zt 8)),Zk 4 30 28 0 (.mov (Zt 6)),Zk 5 31 28 0 (Za .lss 29 30),Zo 6 32 (.pick (Zt 28) Zw (Zt 31))] (Zu 32 (.ops [Zm 0 33 7,Zm 1 34 8,Zm 2 5 33,Zm 3 6 34]) .skip))))) (.ops [Zo 0 35 (Zb .add 16 1),Zm 1 16 35]))))))) (Zq [Zm 0 36 5,Zm 1 2 36,Zs 2 (.store 1 (Zt 3) (Zn 0))] .ret)))))⟩
def af114:AFunc:=⟨12,[.tmp 3],Zq [Zo 0 3 (.mov Zy)] (Zq [Zm 0 4 0,Zo 1 5 (Zb .neq 4 (-1)),Zm 2 6 5,Zh 3 7 6 0 (.load none (Zt 1)),Zh 4 8 6 0 (.mov (Zt 0)),Zh 5 9 6 0 (Zc 90 [Zt 7,Zt 8]),Zh 6 10 6 0 (.not (Zt 9)),Zo 7 11 (.pick (Zt 6) (Zt 10) Zy),Zm 8 3 11] .ret)⟩
def af115:AFunc:=⟨9,[.tmp 4],Zq [Zo 0 4 (.mov Zy)] (Zq [Zm 0 5 0,Zm 1 6 1,Zo 2 7 (Zc 148 [Zt 5,Zt 6]),Zo 3 8 (Zb .geq 7 0),Zm 4 4 8] .ret)⟩
def af116:AFunc:=⟨4,[.tmp 2],Zq [Zo 0 1 (.box (Zt 0)),Zo 1 2 (.mov (.val .nilfn))] (Zq [Zo 0 3 (.mkfn (Fn.func 149) [] [Zt 1]),Zm 1 2 3] .ret)⟩
def af117:AFunc:=⟨7,[.cell 0 (some 2)],Zq [Zo 0 0 (.alloc [.nilif,.nilif])] (Zq [Zo 0 1 (.build [] []),Zo 1 2 (.iface 190 (Zt 1)),Zo 2 3 (.build [] []),Zo 3 4 (.build [] [(0,(0,Zt 3))]),Zo 4 5 (.iface 192 (Zt 4)),Zo 5 6 (.build [.nilif,.nilif] [(0,(1,Zt 2)),(1,(1,Zt 5))]),Zs 6 (.store 2 (Zt 0) (Zt 6))] .ret)⟩
def af122:AFunc:=⟨16,[.tmp 2],Zq [Zo 0 2 (.mov (Zn 0))] (.seq (Zq [Zm 0 5 0,Zo 1 6 (.len (Zt 5)),Zo 2 7 (.mov (Zn 0))] (.block 0 (.loop [2,5,6,7] (Zq [Zo 0 8 (Za .lss 7 6)] (.seq (Zu 8 .skip (.exit 0)) (.seq (.block 1 (Zq [Zo 0 9 (Zj 1 5 7),Zl 1 10 9,Zm 2 4 10] (.ops [Zm 0 11 2,Zm 1 12 4,Zo 2 13 (Za .add 11 12),Zm 3 2 13]))) (.ops [Zo 0 14 (Zb .add 7 1),Zm 1 7 14]))))))) (Zq [Zm 0 15 2,Zm 1 2 15] .ret))⟩
def af125:AFunc:=⟨30,[.tmp 4,.tmp 5],Zq [Zo 0 4 (.mov (.val (.int .u64 0))),Zo 1 5 (.mov (.val (.int .u64 0)))] (.seq (.cond Zy (Zq [Zm 0 11 0,Zo 1 12 (.conv .u32 (Zt 11)),Zm 2 13 1,Zo 3 14 (.conv .u32 (Zt 13)),Zo 4 15 (Zc 152 [Zt 12,Zt 14]),Zm 5 10 15,Zo 6 16 (Zx 10 0),Zo 7 17 (Zx 10 1),Zm 8 6 16,Zm 9 7 17] (Zq [Zm 0 18 6,Zo 1 19 (.conv .u64 (Zt 18)),Zm 2 20 7,Zo 3 21 (.conv .u64 (Zt 20)),Zm 4 4 19,Zm 5 5 21] .ret)) .skip) (Zq [Zm 0 23 0,Zm 1 24 1,Zo 2 25 (Zc 153 [Zt 23,Zt 24]),Zm 3 22 25,Zo 4 26 (Zx 22 0),Zo 5 27 (Zx 22 1),Zm 6 8 26,Zm 7 9 27] (Zq [Zm 0 28 8,Zm 1 29 9,Zm 2 4 28,Zm 3 5 29] .ret)))⟩
def af131:AFunc:=⟨35,[.tmp 8],Zq [Zo 0 4 (.box (Zt 0)),Zo 1 8 (.mov Zy)] (Zq [Zm 0 9 1,Zo 1 10 (Zf 0 4),Zl 2 11 10,Zo 3 12 (Za .leq 9 11),Zm 4 13 12,Zh 5 14 13 0 (Zf 0 4),Zh 6 15 13 0 (.load none (Zt 14)),Zh 7 16 13 0 (Zf 1 4),Zh 8 17 13 0 (.load none (Zt 16)),Zh 9 18 13 0 (Za .leq 15 17),Zo 10 19 (.pick (Zt 13) (Zt 18) Zy),Zm 11 20 19,Zh 12 21 20 0 (Zf 1 4),Zh 13 22 20 0 (.load none (Zt 21)),Zh 14 23 20 0 (.mov (Zt 2)),Zh 15 24 20 0 (Za .leq 22 23),Zo 16 25 (.pick (Zt 20) (Zt 24) Zy),Zm 17 26 25,Zh 18 27 26 0 (Zf 1 4),Zh 19 28 26 0 (.load none (Zt 27)),Zh 20 29 26 0 (Zf 0 4),Zh 21 30 26 0 (.load none (Zt 29)),Zh 22 31 26 0 (Za .sub 28 30),Zh 23 32 26 0 (.mov (Zt 3)),Zh 24 33 26 0 (Za .leq 31 32),Zo 25 34 (.pick (Zt 26) (Zt 33) Zy),Zm 26 8 34] .ret)⟩
def af133:AFunc:=⟨15,[.tmp 6],Zq [Zo 0 6 (.mov Zy)] (Zq [Zm 0 7 1,Zm 1 8 0,Zo 2 9 (Za .leq 7 8),Zm 3 10 9,Zh 4 11 10 0 (.mov (Zt 0)),Zh 5 12 10 0 (.mov (Zt 2)),Zh 6 13 10 0 (Za .leq 11 12),Zo 7 14 (.pick (Zt 10) (Zt 13) Zy),Zm 8 6 14] .ret)⟩
def af137:AFunc:=⟨6,[.tmp 4],Zq [Zo 0 2 (.box (Zt 0)),Zo 1 3 (.box (Zt 1)),Zo 2 4 (.mov (.val .nilfn))] (Zq [Zo 0 5 (.mkfn (Fn.func 158) [] [Zt 2,Zt 3]),Zm 1 4 5] .ret)⟩
def af140:AFunc:=⟨17,[.tmp 6],Zq [Zo 0 5 (.box (Zt 0)),Zo 1 6 (.mov Zy)] (Zq [Zl 0 7 1,Zo 1 8 (Zg 5 5),Zo 2 9 (Zf 3 5),Zo 3 10 (Zf 0 9),Zl 4 11 10,Zo 5 12 (Zg 10 2),Zl 6 13 3,Zl 7 14 4,Zo 8 15 (Zc 141 [Zt 7,Zt 8,Zt 11,Zt 12,Zt 13,Zt 14]),Zo 9 16 (Zb .lss 15 0),Zm 10 6 16] .ret)⟩
def af141:AFunc:=⟨36,[.tmp 12],Zq [Zo 0 7 (.box (Zt 1)),Zo 1 9 (.box (Zt 3)),Zo 2 12 (.mov (Zn 0))] (Zq [Zo 0 14 (Zf 0 7),Zo 1 15 (Zg 3 14),Zo 2 16 (.mkfn (Fn.func 163) [Zt 15] []),Zm 3 13 16] (Zr [Zm 0 17 13,Zm 1 18 0,Zo 2 19 (Zf 0 7),Zd 3 20 4 (Zg 3 19),Zm 4 21 2,Zo 5 22 (Zg 10 9),Zm 6 23 0,Zd 7 24 64 (.nilck (Zt 23)),Zd 8 25 192 (Zf 2 24),Zd 9 26 448 (.load none (Zt 25)),Zd 10 27 960 (.len (Zt 26)),Zm 12 29 4,Zo 14 31 (Zf 0 7),Zd 15 32 16384 (Zg 3 31),Zm 16 33 5,Zd 11 28 2046 (Zc 164 [Zt 18,Zt 20,Zt 21,Zt 22,Zt 27]),Zd 13 30 8191 (.call (Zt 17) [Zt 28,Zt 29]),Zd 17 34 131071 (Zc 165 [Zt 32,Zt 33]),Zd 18 35 262143 (Za .sub 30 34),Zd 19 12 524287 (.mov (Zt 35))] .ret))⟩
def af142:AFunc:=⟨15,[.tmp 5],Zq [Zo 0 4 (.box (Zt 0)),Zo 1 5 (.mov Zy)] (Zq [Zl 0 6 1,Zo 1 7 (Zg 5 4),Zo 2 8 (Zf 3 4),Zo 3 9 (Zf 1 8),Zl 4 10 9,Zo 5 11 (Zg 10 2),Zl 6 12 3,Zo 7 13 (Zc 141 [Zt 6,Zt 7,Zt 10,Zt 11,Zn 0,Zt 12]),Zo 8 14 (Zb .geq 13 0),Zm 9 5 14] .ret)⟩
def af148:AFunc:=⟨19,[.tmp 4],Zq [Zo 0 4 (.mov (Zn 0))] (.seq (Zq [Zm 0 6 0,Zo 1 7 (.len (Zt 6)),Zo 2 8 (.mov (Zn 0))] (.block 0 (.loop [0,1,7,8] (Zq [Zo 0 9 (Za .lss 8 7)] (.seq (Zu 9 .skip (.exit 0)) (.seq (.block 1 (Zq [Zm 0 10 8,Zm 1 5 10] (Zq [Zm 0 11 1,Zm 1 12 0,Zm 2 13 5,Zo 3 14 (Zj 1 12 13),Zl 4 15 14,Zo 5 16 (.call (Zt 11) [Zt 15])] (Zu 16 (Zq [Zm 0 17 5,Zm 1 4 17] .ret) .skip)))) (.ops [Zo 0 18 (Zb .add 8 1),Zm 1 8 18]))))))) (Zq [Zo 0 4 (.mov (Zn (-1)))] .ret))⟩
def af153:AFunc:=⟨51,[.tmp 4,.tmp 5],Zq [Zo 0 4 (.mov (.val (.int .u64 0))),Zo 1 5 (.mov (.val (.int .u64 0)))] (Zq [Zm 0 14 0,Zo 1 15 (.bin .and (Zt 14) (.val (.int .u64 4294967295))),Zm 2 6 15] (Zq [Zm 0 16 0,Zo 1 17 (.bin .shr (Zt 16) (.val (.int .u64 32))),Zm 2 7 17] (Zq [Zm 0 18 1,Zo 1 19 (.bin .and (Zt 18) (.val (.int .u64 4294967295))),Zm 2 8 19] (Zq [Zm 0 20 1,Zo 1 21 (.bin .shr (Zt 20) (.val (.int .u64 32))),Zm 2 9 21] (Zq [Zm 0 22 6,Zm 1 23 8,Zo 2 24 (Za .mul 22 23),Zm 3 10 24] (Zq [Zm 0 25 7,Zm 1 26 8,Zo 2 27 (Za .mul 25 26),Zm 3 28 10,Zo 4 29 (.bin .shr (Zt 28) (.val (.int .u64 32))),Zo 5 30 (Za .add 27 29),Zm 6 11 30] (Zq [Zm 0 31 11,Zo 1 32 (.bin .and (Zt 31) (.val (.int .u64 4294967295))),Zm 2 12 32] (Zq [Zm 0 33 11,Zo 1 34 (.bin .shr (Zt 33) (.val (.int .u64 32))),Zm 2 13 34] (Zq [Zm 0 35 12,Zm 1 36 6,Zm 2 37 9,Zo 3 38 (Za .mul 36 37),Zo 4 39 (Za .add 35 38),Zm 5 12 39] (Zq [Zm 0 40 7,Zm 1 41 9,Zo 2 42 (Za .mul 40 41),Zm 3 43 13,Zo 4 44 (Za .add 42 43),Zm 5 45 12,Zo 6 46 (.bin .shr (Zt 45) (.val (.int .u64 32))),Zo 7 47 (Za .add 44 46),Zm 8 4 47] (Zq [Zm 0 48 0,Zm 1 49 1,Zo 2 50 (Za .mul 48 49),Zm 3 5 50] .ret)))))))))))⟩
def af160:AFunc:=⟨19,[.tmp 4],Zq [Zo 0 4 (.mov (Zn 0))] (.seq (Zq [Zm 0 6 0,Zo 1 7 (.len (Zt 6)),Zo 2 8 (.mov (Zn 0))] (.block 0 (.loop [0,1,7,8] (Zq [Zo 0 9 (Za .lss 8 7)] (.seq (Zu 9 .skip (.exit 0)) (.seq (.block 1 (Zq [Zm 0 10 8,Zm 1 5 10] (Zq [Zm 0 11 1,Zm 1 12 0,Zm 2 13 5,Zo 3 14 (Zj 5 12 13),Zo 4 15 (Zg 5 14),Zo 5 16 (.call (Zt 11) [Zt 15])] (Zu 16 (Zq [Zm 0 17 5,Zm 1 4 17] .ret) .skip)))) (.ops [Zo 0 18 (Zb .add 8 1),Zm 1 8 18]))))))) (Zq [Zo 0 4 (.mov (Zn (-1)))] .ret))⟩
def af162:AFunc:=⟨116,[.cell 4 (some 2)],Zq [Zo 0 3 (.box (Zt 1)),Zo 1 4 (.alloc [Zi 0,Zi 0])] (.seq (Zr [Zm 0 11 0,Zd 1 12 1 (.nilck (Zt 11)),Zd 2 13 3 (Zf 3 12),Zd 3 14 7 (.load none (Zt 13)),Zo 4 15 (Zg 15 3),Zd 5 16 31 (.lookup (.agg [true,true,true,true,true,true,true,true,true,true,true,true,true,true,true]) true (.agg [Zi 0,Zi 0]) (Zt 14) (Zt 15)),Zd 6 10 63 (.mov (Zt 16)),Zd 7 17 127 (Zx 10 0),Zd 8 18 127 (Zx 10 1),Zo 9 5 (.alloc [Zi 0,Zi 0]),Ze 10 767 (.store 2 (Zt 5) (Zt 17)),Zd 11 6 2047 (.mov (Zt 18))] (Zq [Zm 0 19 6] (Zu 19 (Zq [Zo 0 20 (Zg 2 5),Zs 1 (.store 2 (Zt 4) (Zt 20))] .ret) .skip))) (Zr [Zm 0 21 0,Zd 1 22 1 (.nilck (Zt 21)),Zd 2 23 3 (Zf 0 22),Zd 3 24 7 (Zf 0 23),Zd 4 25 15 (.load none (Zt 24)),Zo 5 26 (Zf 10 3),Zd 6 27 32 (.load none (Zt 26)),Zd 7 28 127 (Zj 7 25 27),Zd 8 29 255 (Zf 0 28),Zd 9 30 511 (Zg 2 29),Zo 10 7 (.alloc [Zi 0,Zi 0]),Ze 11 2047 (.store 2 (Zt 7) (Zt 30))] (.seq (Zq [Zm 0 31 0,Zo 1 32 (.nilck (Zt 31)),Zo 2 33 (Zf 0 32),Zo 3 34 (Zf 1 33),Zl 4 35 34,Zo 5 36 (.len (Zt 35)),Zo 6 37 (.mov (Zn 0))] (.block 0 (.loop [0,3,4,7,35,36,37] (Zq [Zo 0 38 (Za .lss 37 36)] (.seq (Zu 38 .skip (.exit 0)) (.seq (.block 1 (Zq [Zm 0 39 37,Zo 1 40 (Zj 7 35 37),Zo 2 41 (Zg 7 40),Zo 3 9 (.alloc [Zi 0,Zi 0,Zi 0,Zi 0,Zi 0,Zi 0,Zi 0]),Zm 4 8 39,Zs 5 (.store 7 (Zt 9) (Zt 41))] (.seq (Zq [Zo 0 42 (Zf 14 3),Zl 1 43 42,Zm 2 44 8,Zo 3 45 (Za .shr 43 44),Zo 4 46 (.bin .and (Zt 45) (.val (.int .u64 1))),Zo 5 47 (.bin .eql (Zt 46) (.val (.int .u64 0))),Zm 6 48 47,Zk 7 49 48 0 (Zf 0 9),Zk 8 50 48 0 (.load none (Zt 49)),Zk 9 51 48 0 (Zb .neq 50 2),Zo 10 52 (.pick (Zt 48) Zw (Zt 51)),Zm 11 53 52,Zk 12 54 53 0 (Zf 4 9),Zk 13 55 53 0 (.load none (Zt 54)),Zk 14 56 53 0 (Zf 10 3),Zk 15 57 53 0 (.load none (Zt 56)),Zk 16 58 53 0 (Za .neq 55 57),Zo 17 59 (.pick (Zt 53) Zw (Zt 58))] (Zu 59 (.exit 1) .skip)) (.seq (.block 2 (.loop [0,3,4,7,8,9,35,36,37] (.seq (Zr [Zo 0 60 (Zf 0 7),Zd 1 61 1 (.load none (Zt 60)),Zo 2 62 (Zf 1 7),Zd 3 63 4 (.load none (Zt 62)),Zd 4 64 15 (Za .leq 61 63),Zd 5 65 31 (.mov (Zt 64)),Zh 6 66 65 63 (.mov (Zt 0)),Zh 7 67 65 63 (Zf 11 3),Zh 8 68 65 191 (Zg 3 67),Zh 9 69 65 63 (Zf 0 7),Zh 10 70 65 575 (.load none (Zt 69)),Zh 11 71 65 63 (Zf 0 3),Zh 12 72 65 2111 (Zg 10 71),Zh 13 73 65 63 (.mov (Zt 8)),Zh 15 75 65 63 (Zf 5 9),Zh 16 76 65 32831 (Zf 0 75),Zh 17 77 65 98367 (.load none (Zt 76)),Zh 14 74 65 16383 (Zc 164 [Zt 66,Zt 68,Zt 70,Zt 72,Zt 73]),Zh 18 78 65 262143 (Za .lss 74 77),Zd 19 79 524287 (.pick (Zt 65) (Zt 78) Zy)] (Zu 79 .skip (.exit 2))) (.block 3 (.ops [Zo 0 80 (Zf 0 7),Zl 1 81 80,Zo 2 82 (Zb .add 81 1),Zo 3 83 (Zf 0 7),Zs 4 (.store 1 (Zt 83) (Zt 82))]))))) (.block 4 (.loop [0,3,4,7,8,9,35,36,37] (.seq (Zr [Zo 0 84 (Zf 0 7),Zd 1 85 1 (.load none (Zt 84)),Zo 2 86 (Zf 1 7),Zd 3 87 4 (.load none (Zt 86)),Zd 4 88 15 (Za .leq 85 87),Zd 5 89 31 (.mov (Zt 88)),Zh 6 90 89 63 (.mov (Zt 0)),Zh 7 91 89 63 (Zf 11 3),Zh 8 92 89 191 (Zg 3 91),Zh 9 93 89 63 (Zf 1 7),Zh 10 94 89 575 (.load none (Zt 93)),Zh 11 95 89 63 (Zf 0 3),Zh 12 96 89 2111 (Zg 10 95),Zh 13 97 89 63 (.mov (Zt 8)),Zh 15 99 89 63 (Zf 5 9),Zh 16 100 89 32831 (Zf 1 99),Zh 17 101 89 98367 (.load none (Zt 100)),Zh 14 98 89 16383 (Zc 164 [Zt 90,Zt 92,Zt 94,Zt 96,Zt 97]),Zh 18 102 89 262143 (Za .gtr 98 101),Zd 19 103 524287 (.pick (Zt 89) (Zt 102) Zy)] (Zu 103 .skip (.exit 4))) (.block 5 (.ops [Zo 0 104 (Zf 1 7),Zl 1 105 104,Zo 2 106 (Zb .sub 105 1),Zo 3 107 (Zf 1 7),Zs 4 (.store 1 (Zt 107) (Zt 106))]))))))))) (.ops [Zo 0 108 (Zb .add 37 1),Zm 1 37 108]))))))) (Zr [Zm 0 109 0,Zd 1 110 1 (.nilck (Zt 109)),Zd 2 111 3 (Zf 3 110),Zd 3 112 7 (.load none (Zt 111)),Zo 4 113 (Zg 15 3),Zo 5 114 (Zg 2 7),Ze 6 63 (.mapupd (.agg [true,true,true,true,true,true,true,true,true,true,true,true,true,true,true]) (Zt 112) (Zt 113) (Zt 114))] (Zq [Zo 0 115 (Zg 2 7),Zs 1 (.store 2 (Zt 4) (Zt 115))] .ret)))))⟩
def af164 : AFunc := ⟨37,[.tmp 10],Zq [Zo 0 6 (.box (Zt 1)),Zo 1 8 (.box (Zt 3)),Zo 2 10 (.mov (Zn 0))] (.seq (Zq [Zm 0 13 0,Zo 1 14 (.nilck (Zt 13)),Zo 2 15 (Zf 2 14),Zl 3 16 15,Zm 4 17 4,Zo 5 18 (.slice 1 (Zt 16) none (some (Zt 17))),Zo 6 19 (.len (Zt 18)),Zo 7 20 (.mov (Zn 0))] (.block 0 (.loop [2,6,8,18,19,20] (Zq [Zo 0 21 (Za .lss 20 19)] (.seq (Zu 21 .skip (.exit 0)) (.seq (.block 1 (Zq [Zm 0 22 20,Zo 1 23 (Zj 1 18 20),Zl 2 24 23,Zm 3 11 22,Zm 4 12 24] (.draw [Zm 0 25 12,Zo 1 26 (Zg 3 6),Zm 2 27 2,Zm 3 28 11,Zd 4 29 8 (.indexA 1 (some 10) (Zt 8) (Zt 28)),Zd 5 30 24 (.load none (Zt 29)),Zd 6 31 1 (.mkfn (Fn.method "bogworks/road.after") [Zt 25] []),Zd 7 32 65 (.nilckM "bogworks/road.after" [171,169,168] (Zt 31)),Zd 8 33 193 (.mov (Zt 25)),Zd 9 34 511 (.invoke (Zt 33) [(171,199),(169,198),(168,197)] [Zt 26,Zt 27,Zt 30]),Zd 10 2 1023 (.mov (Zt 34))]))) (.ops [Zo 0 35 (Zb .add 20 1),Zm 1 20 35]))))))) (Zq [Zm 0 36 2,Zm 1 10 36] .ret))⟩
def af166:AFunc:=⟨37,[.cell 6 (some 2)],Zq [Zo 0 3 (.box (Zt 0)),Zo 1 4 (.box (Zt 1)),Zo 2 5 (.box (Zt 2)),Zo 3 6 (.alloc [Zi 0,Zi 0])] (Zq [Zo 0 7 (.alloc [.nils])] (.seq (Zr [Zl 0 11 3,Zl 1 12 3,Zd 2 13 2 (Zc 136 [Zt 12]),Zd 3 14 7 (Zc 137 [Zt 11,Zt 13])] (.block 0 (.rangeF (Zt 14) [15] (.ops [Zo 0 8 (.alloc [Zi 0,Zi 0,Zi 0,Zi 0,Zi 0,Zi 0,Zi 0,Zi 0,Zi 0,Zi 0]),Zs 1 (.store 10 (Zt 8) (Zt 15))]) (.block 1 (Zr [Zl 0 16 3,Zl 1 17 4,Zo 2 18 (Zg 10 8),Zl 3 19 3,Zo 7 23 (.mov (Zn 0)),Zd 4 20 8 (Zc 136 [Zt 19]),Zd 5 21 31 (Zc 139 [Zt 16,Zt 17,Zt 18,Zt 20]),Zd 6 22 63 (.len (Zt 21))] (.block 2 (.loop [5,7,8,21,22,23] (Zq [Zo 0 24 (Za .lss 23 22)] (.seq (Zu 24 .skip (.exit 2)) (.seq (.block 3 (Zq [Zo 0 25 (Zj 5 21 23),Zo 1 26 (Zg 5 25),Zo 2 10 (.alloc [Zi 0,Zi 0,Zi 0,Zi 0,Zi 0]),Zs 3 (.store 5 (Zt 10) (Zt 26))] (.draw [Zl 0 27 7,Zl 1 28 5,Zo 2 29 (Zg 5 10),Zo 3 30 (Zg 10 8),Zd 4 31 14 (.call (Zt 28) [Zt 29,Zt 30]),Zd 5 32 30 (.buildSl 2 1 [Zi 0,Zi 0] [(0,Zt 31)]),Zd 6 33 63 (.append 2 (Zt 27) (Zt 32)),Ze 7 127 (.store 1 (Zt 7) (Zt 33))]))) (.ops [Zo 0 34 (Zb .add 23 1),Zm 1 23 34]))))))))))) (Zq [Zl 0 35 7,Zo 1 36 (Zc 175 [Zt 35]),Zs 2 (.store 2 (Zt 6) (Zt 36))] .ret)))⟩
def af167:AFunc:=⟨26,[.cell 6 (some 2)],Zq [Zo 0 4 (.box (Zt 0)),Zo 1 5 (.box (Zt 1)),Zo 2 6 (.alloc [Zi 0,Zi 0])] (Zr [Zl 0 7 2,Zo 1 8 (Zf 0 4),Zd 2 9 2 (Zg 3 8),Zo 3 10 (Zf 3 4),Zd 4 11 8 (Zf 0 10),Zd 5 12 24 (.load none (Zt 11)),Zo 6 13 (Zg 10 5),Zl 7 14 3,Zl 9 16 2,Zo 10 17 (Zf 0 4),Zd 11 18 1024 (Zg 3 17),Zo 12 19 (Zf 3 4),Zd 13 20 4096 (Zf 1 19),Zd 14 21 12288 (.load none (Zt 20)),Zo 15 22 (Zg 10 5),Zl 16 23 3,Zd 8 15 255 (Zc 164 [Zt 7,Zt 9,Zt 12,Zt 13,Zt 14]),Zd 17 24 131071 (Zc 164 [Zt 16,Zt 18,Zt 21,Zt 22,Zt 23]),Zd 18 25 262143 (.build [Zi 0,Zi 0] [(0,(1,Zt 15)),(1,(1,Zt 24))]),Ze 19 524287 (.store 2 (Zt 6) (Zt 25))] .ret)⟩
def af172:AFunc:=⟨8,[],Zq [Zo 0 2 (.box (Zt 0))] (Zq [Zo 0 3 (.alloc [Zi 0,Zi 0,Zi 0,Zi 0,Zi 0,Zi 0,Zi 0,Zi 0,Zi 0,Zi 0])] (Zq [Zo 0 4 (.alloc [.nilfn])] (Zq [Zo 0 5 (.mkfn (Fn.func 173) [] [Zt 1,Zt 2,Zt 3,Zt 4]),Zs 1 (.store 1 (Zt 4) (Zt 5))] (.ops [Zl 0 6 4,Zo 1 7 (.call (Zt 6) [Zn 0])]))))⟩
def af197:AFunc:=⟨14,[.tmp 8],Zq [Zo 0 4 (.box (Zt 0)),Zo 1 5 (.box (Zt 1)),Zo 2 8 (.mov (Zn 0))] (Zq [Zm 0 9 2,Zo 1 10 (Zg 3 5),Zm 2 11 3,Zo 3 12 (Zc 165 [Zt 10,Zt 11]),Zo 4 13 (Za .sub 9 12),Zm 5 8 13] .ret)⟩
def af200:AFunc:=⟨21,[.tmp 8],Zq [Zo 0 4 (.box (Zt 0)),Zo 1 6 (.box (Zt 2)),Zo 2 8 (.mov Zy)] (Zr [Zo 0 9 (Zf 6 6),Zd 1 10 1 (.load none (Zt 9)),Zm 2 11 1,Zd 3 12 4 (.nilck (Zt 11)),Zd 4 13 12 (Zf 0 12),Zd 5 14 28 (Zf 3 13),Zd 6 15 60 (.load none (Zt 14)),Zm 7 16 3,Zd 8 17 252 (Zj 2 15 16),Zd 9 18 508 (Zf 1 17),Zd 10 19 1020 (.load none (Zt 18)),Zd 11 20 2047 (Za .gtr 10 19),Zd 12 8 4095 (.mov (Zt 20))] .ret)⟩
def af205:AFunc:=⟨73,[.cell 4 (some 2)],Zq [Zo 0 2 (.box (Zt 0)),Zo 1 3 (.box (Zt 1)),Zo 2 4 (.alloc [.nils,.nils])] (Zq [Zl 0 10 2,Zo 1 11 (.nilck (Zt 10)),Zo 2 12 (Zf 0 11),Zo 3 13 (Zf 0 12),Zo 4 14 (Zg 2 13),Zo 5 5 (.alloc [.nils,.nils]),Zs 6 (.store 2 (Zt 5) (Zt 14))] (Zq [Zl 0 15 2,Zo 1 16 (.nilck (Zt 15)),Zo 2 17 (Zf 0 16),Zo 3 18 (Zf 0 17),Zo 4 19 (Zf 1 18),Zl 5 20 19,Zo 6 21 (.len (Zt 20)),Zo 7 22 (.mksl 7 [Zi 0,Zi 0,Zi 0,Zi 0,Zi 0,Zi 0,Zi 0] (Zt 21) (Zt 21)),Zo 8 23 (Zf 1 5),Zs 9 (.store 1 (Zt 23) (Zt 22))] (Zr [Zo 0 24 (Zf 1 5),Zd 1 25 1 (.load none (Zt 24)),Zl 2 26 2,Zd 3 27 4 (.nilck (Zt 26)),Zd 4 28 12 (Zf 0 27),Zd 5 29 28 (Zf 0 28),Zd 6 30 60 (Zf 1 29),Zd 7 31 124 (.load none (Zt 30)),Zd 8 32 255 (.copy 7 (Zt 25) (Zt 31))] (Zq [Zo 0 6 (.alloc [Zi 0]),Zs 1 (.store 1 (Zt 6) (Zn 0))] (Zq [Zo 0 33 (.mkfn (Fn.func 206) [] [Zt 6,Zt 5]),Zo 1 7 (.alloc [.nilfn]),Zs 2 (.store 1 (Zt 7) (Zt 33))] (.seq (Zq [Zo 0 34 (Zf 0 3),Zl 1 35 2,Zo 2 36 (.nilck (Zt 35)),Zo 3 37 (Zf 0 36),Zo 4 38 (Zf 3 37),Zl 5 39 38,Zo 6 40 (.len (Zt 39)),Zo 7 41 (.sliceA 1 5 (Zt 34) none (some (Zt 40))),Zo 8 42 (Zc 116 [Zt 41])] (.block 0 (.rangeF (Zt 42) [43] (.ops [Zm 0 8 43]) (.block 1 (Zr [Zl 0 44 7,Zm 1 45 8,Zo 2 46 (Zf 0 3),Zd 3 47 6 (.indexA 1 (some 5) (Zt 46) (Zt 45)),Zd 4 48 14 (.load none (Zt 47)),Zd 5 49 31 (.call (Zt 44) [Zt 48])] (Zq [Zl 0 50 2,Zo 1 51 (.nilck (Zt 50)),Zo 2 52 (Zf 0 51),Zo 3 53 (Zf 3 52),Zl 4 54 53,Zm 5 55 8,Zo 6 56 (Zj 2 54 55),Zo 7 57 (Zf 0 56),Zl 8 58 57,Zm 9 9 58] (.ops [Zo 0 59 (Zf 1 5),Zl 1 60 59,Zm 2 61 9,Zm 3 62 9,Zo 4 63 (.build [Zi 0,Zi 0] [(0,(1,Zt 61)),(1,(1,Zt 62))]),Zo 5 64 (.build [Zi 0,Zi 0,Zi 0,Zi 0,Zi 0,Zi 0,Zi 0] [(0,(1,Zn 0)),(1,(2,Zt 63))]),Zo 6 65 (.buildSl 7 1 [Zi 0,Zi 0,Zi 0,Zi 0,Zi 0,Zi 0,Zi 0] [(0,Zt 64)]),Zo 7 66 (.append 7 (Zt 60) (Zt 65)),Zo 8 67 (Zf 1 5),Zs 9 (.store 1 (Zt 67) (Zt 66))]))))))) (Zq [Zl 0 68 7,Zo 1 69 (Zf 6 3),Zl 2 70 69,Zo 3 71 (.call (Zt 68) [Zt 70])] (Zq [Zo 0 72 (Zg 2 5),Zs 1 (.store 2 (Zt 4) (Zt 72))] .ret))))))))⟩
def af206:AFunc:=⟨17,[],Zq [Zm 0 4 0,Zl 1 5 1,Zo 2 6 (Za .gtr 4 5)] (Zu 6 (Zq [Zo 0 7 (Zf 1 2),Zl 1 8 7,Zm 2 9 0,Zl 3 10 1,Zo 4 11 (Za .sub 9 10),Zo 5 12 (.build [Zi 0,Zi 0,Zi 0,Zi 0,Zi 0,Zi 0,Zi 0] [(0,(1,Zn 1)),(3,(1,Zt 11))]),Zo 6 13 (.buildSl 7 1 [Zi 0,Zi 0,Zi 0,Zi 0,Zi 0,Zi 0,Zi 0] [(0,Zt 12)]),Zo 7 14 (.append 7 (Zt 8) (Zt 13)),Zo 8 15 (Zf 1 2),Zs 9 (.store 1 (Zt 15) (Zt 14))] (.ops [Zm 0 16 0,Zs 1 (.store 1 (Zt 1) (Zt 16))])) .skip)⟩
def fnTree:FT:=(.node 120 af120 (.node 73 af73 (.node 53 af53 (.node 25 af25 (.node 18 af18 (.node 16 af16 (.node 14 af14 .leaf .leaf) .leaf) (.node 23 af23 (.node 20 af20 .leaf .leaf) .leaf)) (.node 50 af50 (.node 36 af36 (.node 27 af27 .leaf .leaf) .leaf) (.node 52 af52 (.node 51 af51 .leaf .leaf) .leaf))) (.node 63 af63 (.node 60 af60 (.node 59 af59 (.node 54 af54 .leaf .leaf) .leaf) (.node 62 af62 (.node 61 af61 .leaf .leaf) .leaf)) (.node 69 af69 (.node 68 af68 (.node 67 af67 .leaf .leaf) .leaf) (.node 72 af72 .leaf .leaf)))) (.node 100 af100 (.node 86 af86 (.node 80 af80 (.node 75 af75 (.node 74 af74 .leaf .leaf) .leaf) (.node 85 af85 (.node 81 af81 .leaf .leaf) .leaf)) (.node 90 af90 (.node 89 af89 (.node 87 af87 .leaf .leaf) .leaf) (.node 99 af99 (.node 91 af91 .leaf .leaf) .leaf))) (.node 113 af113 (.node 103 af103 (.node 102 af102 (.node 101 af101 .leaf .leaf) .leaf) (.node 112 af112 (.node 104 af104 .leaf .leaf) .leaf)) (.node 116 af116 (.node 115 af115 (.node 114 af114 .leaf .leaf) .leaf) (.node 117 af117 .leaf .leaf))))) (.node 158 af158 (.node 138 af138 (.node 132 af132 (.node 124 af124 (.node 122 af122 (.node 121 af121 .leaf .leaf) .leaf) (.node 131 af131 (.node 125 af125 .leaf .leaf) .leaf)) (.node 135 af135 (.node 134 af134 (.node 133 af133 .leaf .leaf) .leaf) (.node 137 af137 (.node 136 af136 .leaf .leaf) .leaf))) (.node 147 af147 (.node 141 af141 (.node 140 af140 (.node 139 af139 .leaf .leaf) .leaf) (.node 146 af146 (.node 142 af142 .leaf .leaf) .leaf)) (.node 152 af152 (.node 149 af149 (.node 148 af148 .leaf .leaf) .leaf) (.node 153 af153 .leaf .leaf)))) (.node 173 af173 (.node 164 af164 (.node 161 af161 (.node 160 af160 (.node 159 af159 .leaf .leaf) .leaf) (.node 163 af163 (.node 162 af162 .leaf .leaf) .leaf)) (.node 167 af167 (.node 166 af166 (.node 165 af165 .leaf .leaf) .leaf) (.node 172 af172 .leaf .leaf))) (.node 201 af201 (.node 197 af197 (.node 175 af175 (.node 174 af174 .leaf .leaf) .leaf) (.node 200 af200 (.node 198 af198 .leaf .leaf) .leaf)) (.node 205 af205 (.node 204 af204 (.node 202 af202 .leaf .leaf) .leaf) (.node 206 af206 .leaf .leaf))))))
end Ev
namespace Rd
open Clm (Sp)
structure Pt where
 height:Sp
 stiff:Sp
 rise:Sp
 full:Int
deriving Inhabited
structure Evt where
 kind:Int
 load:Sp
 days:Int
 part:Int
 shows:Sp
deriving Inhabited
structure Road where
 parts:List Pt
 events:List Evt
structure Tr where
 stiff:Int
 rise:Int
 full:Int
deriving Inhabited
def sunk (p:Tr)(load:Int):Int:=(load+p.stiff - 1) / p.stiff
def rested (p:Tr)(h days:Int):Int:=min p.full (h+days * p.rise)
def stepE (v:Evt)(p:Tr)(h load:Int):Int:=if v.kind=0 then h - sunk p load else if v.kind=1 then rested p h v.days else h
def after (p:Tr):List Evt→List Int→Int→Int
 |[],_,h=>h
 |v::l,ls,h=>after p l ls.tail (stepE v p h (ls.headD 0))
def heightR (r:Road)(p:Tr)(h:Int)(ls:List Int)(many:Nat):Int:=after p (r.events.take many) ls h
theorem sunk_nn {p:Tr}(h1:1≤p.stiff){load:Int}(h0:0≤load):0≤sunk p load:=Int.ediv_nonneg (by omega) (by omega)
theorem zou (v:Evt)(p:Tr){a b:Int}(h:a≤b)(load:Int):stepE v p a load≤stepE v p b load:=by
 unfold stepE rested
 split
 ·omega
 ·split
  ·generalize v.days * p.rise=x;omega
  ·exact h
theorem zde (p:Tr):∀ (l:List Evt) (ls:List Int) {a b:Int},a≤b→after p l ls a≤after p l ls b
 |[],_,_,_,h=>h
 |v::l,ls,_a,_b,h=>zde p l ls.tail (zou v p h _)
def upL (f:Int→Int)(b:Int):Nat→Int→Int
 |0,x=>x
 |n+1,x=>if f x<b then upL f b n (x+1) else x
def dnH (f:Int→Int)(b:Int):Nat→Int→Int
 |0,x=>x
 |n+1,x=>if b<f x then dnH f b n (x - 1) else x
def narrow (f:Int→Int)(w s:Sp):Sp:=
 let lo:=upL f w.lo (s.hi+1 - s.lo).toNat s.lo
 ⟨lo,dnH f w.hi (s.hi+1 - lo).toNat s.hi⟩
theorem zmz (f:Int→Int)(b:Int)(hf:∀ x y,x≤y→f x≤f y):∀ (n:Nat) (x:Int),x≤upL f b n x∧upL f b n x≤x+n∧(∀ y,x≤y→y<x+n→(upL f b n x≤y↔b≤f y))
 |0,x=>⟨Int.le_refl _,by simp[upL],fun y h1 h2=>by simp at h2;omega⟩
 |n+1,x=>by
  obtain ⟨h1,h2,h3⟩:=zmz f b hf n (x+1)
  unfold upL
  by_cases hx:f x<b
  ·rw[if_pos hx]
   refine ⟨by omega,by omega,fun y hy1 hy2=>?_⟩
   by_cases hyx:y=x
   ·subst hyx
    exact ⟨fun h=>by omega,fun h=>by omega⟩
   ·exact h3 y (by omega) (by omega)
  ·rw[if_neg hx]
   exact ⟨Int.le_refl _,by omega,fun y hy1 hy2=>⟨fun _=>by have:=hf x y hy1;omega,fun _=>hy1⟩⟩
theorem zod (f:Int→Int)(b:Int)(hf:∀ x y,x≤y→f x≤f y):∀ (n:Nat) (x:Int),dnH f b n x≤x∧x - n≤dnH f b n x∧(∀ y,y≤x→x - n<y→(y≤dnH f b n x↔f y≤b))
 |0,x=>⟨Int.le_refl _,by simp[dnH],fun y h1 h2=>by simp at h2;omega⟩
 |n+1,x=>by
  obtain ⟨h1,h2,h3⟩:=zod f b hf n (x - 1)
  unfold dnH
  by_cases hx:b<f x
  ·rw[if_pos hx]
   refine ⟨by omega,by omega,fun y hy1 hy2=>?_⟩
   by_cases hyx:y=x
   ·subst hyx
    exact ⟨fun h=>by omega,fun h=>by omega⟩
   ·exact h3 y (by omega) (by omega)
  ·rw[if_neg hx]
   exact ⟨Int.le_refl _,by omega,fun y hy1 hy2=>⟨fun _=>by have:=hf y x hy1;omega,fun _=>hy1⟩⟩
theorem zpz (f:Int→Int)(w s:Sp)(hf:∀ x y,x≤y→f x≤f y)(y:Int):(narrow f w s).has y↔s.has y∧w.lo≤f y∧f y≤w.hi:=by
 obtain ⟨a1,a2,a3⟩:=zmz f w.lo hf (s.hi+1 - s.lo).toNat s.lo
 obtain ⟨b1,b2,b3⟩:=zod f w.hi hf (s.hi+1 - (upL f w.lo (s.hi+1 - s.lo).toNat s.lo)).toNat s.hi
 unfold narrow
 simp only[Sp.has]
 generalize upL f w.lo (s.hi+1 - s.lo).toNat s.lo=lo at *
 generalize dnH f w.hi (s.hi+1 - lo).toNat s.hi=hi at *
 constructor
 ·rintro ⟨h1,h2⟩
  have:=(a3 y (by omega) (by omega)).1 h1
  have:=(b3 y (by omega) (by omega)).1 h2
  omega
 ·rintro ⟨⟨h1,h2⟩,h3,h4⟩
  have:=(a3 y (by omega) (by omega)).2 h3
  have:=(b3 y (by omega) (by omega)).2 h4
  omega
def bit (s i:Nat):Bool:=s.testBit i
def firstL (r:Road)(number:Nat)(p:Tr)(ls:List Int)(looks:Nat):List (Evt × Nat)→Sp→Sp
 |[],s=>s
 |(v,i)::l,s=>firstL r number p ls looks l (if bit looks i∧v.kind=2∧v.part=number then narrow (fun h=>heightR r p h ls i) v.shows s else s)
def firstR (r:Road)(number:Nat)(p:Tr)(ls:List Int)(looks:Nat):Sp:=firstL r number p ls looks r.events.zipIdx (r.parts.getD number default).height
def right (r:Road)(number:Nat)(p:Tr)(ls:List Int)(looks:Nat)(h:Int):Prop:=
 ∀ q∈r.events.zipIdx,bit looks q.2=true→q.1.kind=2→q.1.part=number→q.1.shows.lo≤heightR r p h ls q.2∧heightR r p h ls q.2≤q.1.shows.hi
theorem zig (r:Road)(number:Nat)(p:Tr)(ls:List Int)(looks:Nat)(y:Int):∀ (l:List (Evt × Nat)) (s:Sp),(firstL r number p ls looks l s).has y↔s.has y∧∀ q∈l,bit looks q.2=true→q.1.kind=2→q.1.part=number→q.1.shows.lo≤heightR r p y ls q.2∧heightR r p y ls q.2≤q.1.shows.hi
 |[],s=>by simp[firstL]
 |(v,i)::l,s=>by
   rw[firstL,zig r number p ls looks y l]
   have hm:∀ a b,a≤b→heightR r p a ls i≤heightR r p b ls i:=fun a b h=>zde p _ _ h
   by_cases hc:bit looks i∧v.kind=2∧v.part=number
   ·rw[if_pos hc,zpz _ _ _ hm]
    constructor
    ·rintro ⟨⟨h1,h2⟩,h3⟩
     refine ⟨h1,fun q hq=>?_⟩
     rcases List.mem_cons.1 hq with rfl|hq
     ·exact fun _ _ _=>h2
     ·exact h3 q hq
    ·rintro ⟨h1,h2⟩
     exact ⟨⟨h1,h2 (v,i) (by simp) hc.1 hc.2.1 hc.2.2⟩,fun q hq=>h2 q (by simp[hq])⟩
   ·rw[if_neg hc]
    constructor
    ·rintro ⟨h1,h3⟩
     refine ⟨h1,fun q hq=>?_⟩
     rcases List.mem_cons.1 hq with rfl|hq
     ·exact fun a b d=>absurd ⟨a,b,d⟩ hc
     ·exact h3 q hq
    ·rintro ⟨h1,h2⟩
     exact ⟨h1,fun q hq=>h2 q (by simp[hq])⟩
theorem zco (r:Road)(number:Nat)(p:Tr)(ls:List Int)(looks:Nat)(y:Int):(firstR r number p ls looks).has y↔(r.parts.getD number default).height.has y∧right r number p ls looks y:=zig r number p ls looks y _ _
def partsR (p:Pt):List Tr:=(Clm.spanL p.stiff).flatMap fun s=>(Clm.spanL p.rise).map fun k=>⟨s,k,p.full⟩
structure Way where
 part:Tr
 first:Sp
def waysR (r:Road)(number:Nat)(ls:List Int)(looks:Nat):List Way:=
 (partsR (r.parts.getD number default)).filterMap fun p=>if (firstR r number p ls looks).some then some ⟨p,firstR r number p ls looks⟩ else none
def allR:List Evt→List (List Int)
 |[]=>[[]]
 |v::l=>if v.kind=0 then (Clm.spanL v.load).flatMap fun k=>(allR l).map (k::·) else (allR l).map (0::·)
def toldR (r:Road)(looks:Nat):List (List Int):=(allR r.events).filter fun ls=>(List.range r.parts.length).all fun i=>!(waysR r i ls looks).isEmpty
def canR (r:Road)(looks:Nat):Bool:=!(toldR r looks).isEmpty
def everyR (r:Road):Nat:=2 ^ r.events.length - 1
def spanR (r:Road)(number:Nat)(f:Way→List Int→Sp):Sp:=Clm.hull ((toldR r (everyR r)).flatMap fun ls=>(waysR r number ls (everyR r)).map fun w=>f w ls)
def heightsR (r:Road)(number many:Nat):Sp:=spanR r number fun w ls=>⟨heightR r w.part w.first.lo ls many,heightR r w.part w.first.hi ls many⟩
def leftR (r:Road)(w:Way)(first:Int)(ls:List Int)(days load:Int):Int:=rested w.part (heightR r w.part first ls r.events.length) days - sunk w.part load
def sureR (r:Road)(days load:Int):Bool:=(toldR r (everyR r)).all fun ls=>(List.range r.parts.length).all fun i=>(waysR r i ls (everyR r)).all fun w=>decide (0≤leftR r w w.first.lo ls days load)
def mayR (r:Road)(load:Int):Bool:=(toldR r (everyR r)).any fun ls=>(List.range r.parts.length).all fun i=>(waysR r i ls (everyR r)).any fun w=>decide (0≤leftR r w w.first.hi ls 0 load)
def bearsR (r:Road)(load:Int):Int:=if sureR r 0 load then 2 else if mayR r load then 1 else 0
end Rd
namespace Clm
theorem mem_span (s:Sp)(x:Int):x∈spanL s↔s.has x:=by
 simp only[spanL,List.mem_map,List.mem_range,Sp.has]
 constructor
 ·rintro ⟨i,h,rfl⟩;omega
 ·intro h;exact ⟨(x - s.lo).toNat,by omega,by omega⟩
theorem zuh (p:Pl)(s:Size):s∈sizes p↔p.long.has s.l∧p.wide.has s.w∧p.high.has s.h:=by
 simp only[sizes,List.mem_flatMap,List.mem_map,mem_span]
 constructor
 ·rintro ⟨l,hl,w,hw,h,hh,rfl⟩;exact ⟨hl,hw,hh⟩
 ·intro h;exact ⟨s.l,h.1,s.w,h.2.1,s.h,h.2.2,rfl⟩
theorem isSpan_iff (s:Sp)(a b w:Int):isSpan s a b w=true↔a≤s.lo∧s.lo≤s.hi∧s.hi≤b∧s.hi - s.lo≤w:=by simp[isSpan]
structure Fine (c:Cl):Prop where
 piles:1≤c.piles.length∧c.piles.length≤4
 pack:1≤c.pack.lo∧c.pack.lo≤c.pack.hi∧c.pack.hi≤5∧c.pack.hi - c.pack.lo≤2
 events:c.events.length≤6
 pile:∀ p∈c.piles,(1≤p.long.lo∧p.long.lo≤p.long.hi∧p.long.hi≤10∧p.long.hi - p.long.lo≤1)∧(1≤p.wide.lo∧p.wide.lo≤p.wide.hi∧p.wide.hi≤10∧p.wide.hi - p.wide.lo≤1)∧(1≤p.high.lo∧p.high.lo≤p.high.hi∧p.high.hi≤10∧p.high.hi - p.high.lo≤1)
 event:∀ v∈c.events,(0≤v.clamp∧v.clamp<c.piles.length)∧(v.kind=0∨v.kind=1)∧0≤v.sods.lo∧v.sods.lo≤v.sods.hi∧v.sods.hi≤5000∧v.sods.hi - v.sods.lo≤(if v.kind=0 then 3 else 5000)
theorem valid_iff (c:Cl):valid c=true↔Fine c:=by
 simp only[valid,Bool.and_eq_true,decide_eq_true_eq,isSpan_iff,List.all_eq_true]
 exact ⟨fun h => ⟨h.1.1.1.1, h.1.1.1.2, h.1.1.2, fun p hp => ⟨(h.1.2 p hp).1.1, (h.1.2 p hp).1.2, (h.1.2 p hp).2⟩, fun v hv => ⟨(h.2 v hv).1.1, (h.2 v hv).1.2, (h.2 v hv).2⟩⟩,
  fun h=>⟨⟨⟨⟨h.piles,h.pack⟩,h.events⟩,fun p hp=>⟨⟨(h.pile p hp).1,(h.pile p hp).2.1⟩,(h.pile p hp).2.2⟩⟩,fun v hv=>⟨⟨(h.event v hv).1,(h.event v hv).2.1⟩,(h.event v hv).2.2⟩⟩⟩
theorem zhm {c:Cl}(hc:Fine c)(number counts:Nat):∀ e∈befell c number counts,e.fine:=by
 intro e he
 simp only[befell,List.mem_map] at he
 obtain ⟨⟨v,i⟩,hp,rfl⟩:=he
 have hv:v∈c.events:=by
  have:=List.mem_zipIdx hp
  obtain ⟨_,_,h⟩:=this
  simp only[h];exact List.getElem_mem _
 have:=hc.event v hv
 simp only
 split
 ·trivial
 ·split
  ·exact ⟨this.2.2.1,this.2.2.2.1⟩
  ·split<;>trivial
theorem zxt {c:Cl}{i:Nat}(h:i<c.piles.length):c.piles.getD i default∈c.piles:=by
 rw[List.getD_eq_getElem?_getD,List.getElem?_eq_getElem h];exact List.getElem_mem _
theorem znc {c:Cl}(hc:Fine c){i:Nat}(hi:i<c.piles.length){k:Int}(hk:0≤k){s:Size}(hs:s∈sizes (c.piles.getD i default)):0≤s.sods k:=by
 have h1:=hc.pile _ (zxt hi)
 rw[zuh] at hs
 simp only[Sp.has] at hs
 unfold Size.sods
 have a:0≤s.l:=by omega
 have b:0≤s.w:=by omega
 have d:0≤s.h:=by omega
 exact Int.mul_nonneg (Int.mul_nonneg (Int.mul_nonneg a b) d) hk
theorem mem_ways {c:Cl}(hc:Fine c){i:Nat}(hi:i<c.piles.length){k:Int}(hk:0≤k)(counts:Nat)(w:Way):
  w∈ways c i k counts↔w.size∈sizes (c.piles.getD i default)∧w.log=logOf c i k counts w.size∧∃ y,Goes (befell c i counts) (w.size.sods k) y:=by
 simp only[ways,List.mem_filterMap]
 constructor
 ·rintro ⟨s,hs,h⟩
  split at h
  ·rename_i hh
   cases h
   exact ⟨hs,rfl,(zkk _ _ (zhm hc i counts) (znc hc hi hk hs)).1 hh⟩
  ·cases h
 ·rintro ⟨h1,h2,h3⟩
  refine ⟨w.size,h1,?_⟩
  rw[show ((logOf c i k counts w.size).headD Sp.no).some=true from (zkk _ _ (zhm hc i counts) (znc hc hi hk h1)).2 h3]
  obtain ⟨a,b⟩:=w
  simp only at h2;subst h2;rfl
end Clm
namespace Rd
open Clm (Sp Hull spanL)
structure Fine (r:Road):Prop where
 parts:1≤r.parts.length∧r.parts.length≤4
 events:r.events.length≤10
 part:∀ p∈r.parts,(0≤p.full∧p.full≤60)∧(0≤p.height.lo∧p.height.lo≤p.height.hi∧p.height.hi≤p.full∧p.height.hi - p.height.lo≤2)∧(1≤p.stiff.lo∧p.stiff.lo≤p.stiff.hi∧p.stiff.hi≤10∧p.stiff.hi - p.stiff.lo≤2)∧(0≤p.rise.lo∧p.rise.lo≤p.rise.hi∧p.rise.hi≤5∧p.rise.hi - p.rise.lo≤2)
 event:∀ v∈r.events,(v.kind=0∧0≤v.load.lo∧v.load.lo≤v.load.hi∧v.load.hi≤60∧v.load.hi - v.load.lo≤2)∨(v.kind=1∧1≤v.days∧v.days≤10)∨(v.kind=2∧(0≤v.part∧v.part<r.parts.length)∧-1000≤v.shows.lo∧v.shows.lo≤v.shows.hi∧v.shows.hi≤1000)
 doubts:(r.events.filter fun v=>decide (v.kind=0∧v.load.lo<v.load.hi)).length≤4
theorem part_mem {r:Road}{i:Nat}(h:i<r.parts.length):r.parts.getD i default∈r.parts:=by
 rw[List.getD_eq_getElem?_getD,List.getElem?_eq_getElem h];exact List.getElem_mem _
def restI (full rise:Int):Nat→Int→Int
 |0,n=>n
 |d+1,n=>restI full rise d (min full (n+rise))
theorem ziu {full rise:Int}(hr:0≤rise):∀ (d:Nat) (n:Int),n≤full→restI full rise d n=min full (n+d * rise)
 |0,n,h=>by simp[restI];omega
 |d+1,n,h=>by
  have hd:0≤(d:Int) * rise:=Int.mul_nonneg (by omega) hr
  rw[restI,ziu hr d _ (by omega)]
  rw[show ((d+1:Nat):Int) * rise=(d:Int) * rise+rise by rw[Int.natCast_add,Int.add_mul];simp]
  generalize (d:Int) * rise=x at *
  omega
def stepI (v:Evt)(p:Tr)(h load:Int):Int:=if v.kind=0 then h - sunk p load else if v.kind=1 then restI p.full p.rise v.days.toNat h else h
def afterI (p:Tr):List Evt→List Int→Int→Int
 |[],_,h=>h
 |v::l,ls,h=>afterI p l ls.tail (stepI v p h (ls.headD 0))
def inI (r:Road)(p:Tr)(h:Int)(ls:List Int)(many:Nat):Int:=afterI p (r.events.take many) ls h
theorem zxa {v:Evt}{p:Tr}{h load:Int}(hs:1≤p.stiff)(hr:0≤p.rise)(hf:h≤p.full)(hd:v.kind=1→0≤v.days)(hl:0≤load):stepI v p h load=stepE v p h load∧stepE v p h load≤p.full:=by
 unfold stepI stepE
 have h0:=sunk_nn hs hl
 split
 ·exact ⟨rfl,by omega⟩
 ·split
  ·rename_i h1
   rw[ziu hr _ _ hf]
   unfold rested
   have:=hd h1
   rw[show ((v.days.toNat:Nat):Int)=v.days by omega]
   exact ⟨rfl,by omega⟩
  ·exact ⟨rfl,hf⟩
theorem zhp {p:Tr}(hs:1≤p.stiff)(hr:0≤p.rise):∀ (l:List Evt) (ls:List Int) (h:Int),h≤p.full→(∀ v∈l,v.kind=1→0≤v.days)→(∀ x∈ls,0≤x)→afterI p l ls h=after p l ls h∧after p l ls h≤p.full
 |[],_,h,hf,_,_=>⟨rfl,hf⟩
 |v::l,ls,h,hf,hd,hl=>by
  have h0:0≤ls.headD 0:=by
   cases ls with
   |nil=>simp
   |cons a t=>exact hl a (by simp)
  obtain ⟨e1,e2⟩:=zxa (v:=v) (load:=ls.headD 0) hs hr hf (hd v (by simp)) h0
  rw[afterI,after,e1]
  exact zhp hs hr l ls.tail _ e2 (fun u hu=>hd u (by simp[hu])) fun x hx=>hl x (List.mem_of_mem_tail hx)
theorem mem_allR:∀ (l:List Evt) (ls:List Int),ls∈allR l→ls.length=l.length∧∀ i (h:i<l.length),(l[i].kind=0→l[i].load.has (ls.getD i 0))∧(l[i].kind≠0→ls.getD i 0=0)
 |[],ls,h=>by
   simp only[allR,List.mem_singleton] at h
   subst h
   exact ⟨rfl,fun i hi=>absurd hi (by simp)⟩
 |v::l,ls,h=>by
  rw[allR] at h
  split at h
  ·rename_i hk
   simp only[List.mem_flatMap,List.mem_map] at h
   obtain ⟨k,hk2,t,ht,rfl⟩:=h
   obtain ⟨e1,e2⟩:=mem_allR l t ht
   refine ⟨by simp[e1],fun i hi=>?_⟩
   cases i with
   |zero=>exact ⟨fun _=>(Clm.mem_span v.load k).1 hk2,fun h=>absurd hk h⟩
   |succ i=>exact e2 i (by simpa using hi)
  ·rename_i hk
   simp only[List.mem_map] at h
   obtain ⟨t,ht,rfl⟩:=h
   obtain ⟨e1,e2⟩:=mem_allR l t ht
   refine ⟨by simp[e1],fun i hi=>?_⟩
   cases i with
   |zero=>exact ⟨fun h=>absurd h hk,fun _=>rfl⟩
   |succ i=>exact e2 i (by simpa using hi)
theorem load_nn {r:Road}(hr:Fine r){ls:List Int}(h:ls∈allR r.events):∀ x∈ls,0≤x∧x≤60:=by
 obtain ⟨e1,e2⟩:=mem_allR _ _ h
 intro x hx
 obtain ⟨i,hi,rfl⟩:=List.getElem_of_mem hx
 have hi':i<r.events.length:=by omega
 obtain ⟨f1,f2⟩:=e2 i hi'
 have hg:ls.getD i 0=ls[i]:=by rw[List.getD_eq_getElem?_getD,List.getElem?_eq_getElem hi];rfl
 rw[hg] at f1 f2
 have hv:=hr.event _ (List.getElem_mem hi')
 by_cases hk:r.events[i].kind=0
 ·have:=f1 hk
  simp only[Sp.has] at this
  rcases hv with hv|hv|hv<;>omega
 ·have:=f2 hk
  omega
def statesR (r:Road)(number:Nat)(ls:List Int)(looks:Nat):List (Int × Tr):=
 (spanL (r.parts.getD number default).height).flatMap fun h=>(partsR (r.parts.getD number default)).filterMap fun p=>
  if r.events.zipIdx.all (fun q=>!(bit looks q.2&&q.1.kind==2&&q.1.part==number) || (decide (q.1.shows.lo≤inI r p h ls q.2)&&decide (inI r p h ls q.2≤q.1.shows.hi))) then some (h,p) else none
end Rd
end Go.Proofs.YtfpepkbflnendaaGreat
