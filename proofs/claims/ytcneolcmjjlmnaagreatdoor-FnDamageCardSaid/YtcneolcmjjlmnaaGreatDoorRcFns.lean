import Derived.Test.YtcneolcmjjlmnaaGreatDoorRcFnsP4
open Option renaming some->Jg
namespace Go.Proofs.YtcneolcmjjlmnaaGreatDoor
open Go Go.Vc
set_option linter.unusedVariables false
set_option linter.unusedSimpArgs false
set_option maxRecDepth 20000
set_option maxHeartbeats 4000000
attribute [local irreducible] CallsQ vLen vIdx IntKind.wrap hcell vNew vNewS vSliceS vStore1 vAppend vMake vCopy vB2S vS2B vNilS vSliceStr vStrIdx
section
variable {ψ:CM} {h:Heap} (hψ:CLe ψ (hcell h))
include hψ
theorem ZA3 {g a budget1 r} (N:Zlr g budget1=Jg r) (u:sc h eL a g.Rows) (hL:LayH 3 [0] [1,2] h):zR 39 #[.agg #[.int .i64 g.Kind,.int .i64 g.Size,a],.int .i64 budget1] h ψ (.tuple #[.string r.1,.int .i64 r.2]):=by
 refine zO Tryz.func39 λC=>?_;refine new_S C λb2 w C=>?_;refine lsA ?_;refine cm0 N C (λs e=>ZmG s e slA) λr9 x C N=>⟨_,rfl,?_⟩;refine brZ λN=>?_;refine cm0 N C (λs e=>Zr5 s e) λy a2 C N=>⟨_,rfl,?_⟩;refine brZ λN=>?_;refine lsA ?_;refine cm2 N C (λs e=>ZOg s e slA) λa3 a4 o a5 C N=>⟨_,_,_,rfl,?_⟩;refine new_S C λb6 a6 C=>?_;(iterate 2 refine boxA λa7 C=>?_);refine brZ λN=>?_;refine lsA ?_;obtain ⟨a8,i,N⟩:=obind N;obtain ⟨v,a9,f,k⟩:=id C;refine (ZL6 (CLe.refl _) i slA slA (hL.ext f.ext)).mono λaa ab ⟨j,l⟩=>⟨_,_,j,?_⟩;replace C:=join0 f k (l.weak f.fle);exact wX
omit hψ in
instance k185:Kn 39 (type_of% @ZA3):=⟨@ZA3⟩
theorem ZLL {e a budget1 r} (N:Zks e budget1=Jg r) (f:sc h eL a e.Rows) (hL:LayH 3 [0] [1,2] h):zR 16 #[.agg #[.int .i64 e.Kind,.int .i64 e.Size,a],.int .i64 budget1] h ψ (.tuple #[.string r.1,.int .i64 r.2]):=by
 refine zO Tryz.func16 λC=>?_;exact wX
theorem ZHe {o:List Zh} {v0:Value} {j:Zh->Jm Bool} {k:Nat} {g:Jc} {r:Int} (N:Zrt o j=Jg r) (u:sc h Zaf v0 o) (y:ctx.okf k=true) (k1:∀{h1:Heap},ExtH h h1->∀{ψ1:CM},CLe ψ1 (hcell h1)->∀{e:Zh} {i:Value} {w:Bool},j e=Jg w->SlC (hcell h1) eL i e.Object.Rows->CallsH P k (([.agg #[.string e.Name,.int .i64 e.Object.Kind,.int .i64 e.Object.Size,i,.string e.Key]]:Jc)++g).toArray h1 (λv h'=>v=.bool w/\S ψ1 h1 h' [])):zR 40 #[v0,.func (.func k) #[] g.toArray] h ψ (.int .i64 r):=by
 refine zT [[2,48]] Tryz.func40 λC=>?_;refine vL u C.le ?_;refine lp1 N (nlS C) λm y8 a4 a C N O=>?_;refine brY λN=>?_;refine ixA slA N λa5 a6 ad hx N=>?_;obtain ⟨cs,ck,hr⟩:=u.cells ad hx rfl;obtain ⟨a7,rfl,f⟩:=ZaV hr;refine lsA ?_;obtain ⟨a8,l,N⟩:=obind N;obtain ⟨φ,L,s,x⟩:=id C;refine Zb9 y ?_;refine (k1 C.ext s.fle l slA).mono λa9 aa ⟨eq,t⟩=>⟨_,eq,?_⟩;replace C:=join0 s x t;exact wX
theorem ZDv {x0 e a f r} (N:Zro x0 a=Jg r) (g:sc h eL e x0.Object.Rows) (i:sc h eL f a.Object.Rows):zR 42 #[.agg #[.string x0.Name,.int .i64 x0.Object.Kind,.int .i64 x0.Object.Size,e,.string x0.Key],.agg #[.string a.Name,.int .i64 a.Object.Kind,.int .i64 a.Object.Size,f,.string a.Key]] h ψ (.bool r):=by
 refine zO Tryz.func42 λC=>?_;exact wX
omit hψ in
instance k186:Kn 42 (type_of% @ZDv):=⟨@ZDv⟩
theorem ZOA {a f e p1 g r} (N:Zmc a e=Jg r) (i:sc h eL f a.Object.Rows) (k:CellsC (hcell h) p1 [.string e.Name,.int .i64 e.Object.Kind,.int .i64 e.Object.Size,g,.string e.Key]) (j:sc h eL g e.Object.Rows):zR 41 #[.agg #[.string a.Name,.int .i64 a.Object.Kind,.int .i64 a.Object.Size,f,.string a.Key],.pointer (Jg p1)] h ψ (.bool r):=by
 refine zO Tryz.func41 λC=>?_;exact wX
theorem ZIS {items0 v0 x1 a r} (N:Zl6 items0 x1=Jg r) (u:sc h Zaf v0 items0) (f:sc h eL a x1.Object.Rows):zR 17 #[v0,.agg #[.string x1.Name,.int .i64 x1.Object.Kind,.int .i64 x1.Object.Size,a,.string x1.Key]] h ψ (.int .i64 r):=by
 refine zO Tryz.func17 λC=>?_;refine new_S C λv l C=>?_;refine cl0 N C (λs _ _ k=>ZHe s.fle k slA κ (λe=>λg=>λi j=>ZOA g i j ((C.cells 0 rfl).mono (CLe.ext e)) ((f.mono C.le).mono (CLe.ext e)))) λw o C N=>⟨_,rfl,?_⟩
 exact tZ
theorem ZAv {y0 y r} (N:ZnX y0 y=Jg r) (hL:LayH 3 [0] [1,2] h):CallsH P 8 #[.string y0,.int .i64 y] h (λv h'=>∃w0,v=.tuple #[.agg #[w0],.int .i64 r.2]/\S ψ h h' [.it (El.ow Zd3) [w0] r.1.Items]):=by
 refine zU [[8,186]] [[15]] Tryz.func8 λC=>?_;refine new_S C λb4 al C=>?_;refine cm0 N C (λs hx=>Zr5 s hx) λam ao C N=>⟨_,rfl,?_⟩;apply brQ N<;>intro N
 .exact wX
 .refine cl1 N C (λk _ _ a3=>ZG7 k.fle a3 (hL.ext k.ext)) λl o ap C N=>⟨_,_,rfl,?_⟩;apply brQ N<;>intro N
  .exact wX
  .refine new_S C λb8 aq C=>?_;refine ZF slA ?_;have C:=C.nilO (E:=Zd3);refine lw12 N (λi xs g=>([.box b8 [g],.it (El.ow El.str) [o] l.1,.box b4 [(.slice none 0 0)],.it (El.ow Zd3) [g] xs],i,xs)) λi ar xs g a C N O=>?_;apply brQ N<;>intro N
   .refine ixS slA N λau N=>?_;refine cl1 N C (λu _ _ a4=>ZFF u.fle a4 (hL.ext u.ext)) λe w av C N=>⟨_,_,_,_,_,rfl,?_⟩;refine new_S C λac ae C=>?_;(iterate 3 refine boxA λaf C=>?_);apply brQ N<;>intro N
    .exact wX
    .refine ⟨λj=>S ψ h j [.box ac [.int .i64 e.2.1.Kind,.int .i64 e.2.1.Size,w],.it (El.ow oL) [w] e.2.1.Rows,.box b8 [g],.it (El.ow El.str) [o] l.1,.box b4 [(.slice none 0 0)],.it (El.ow Zd3) [g] xs]/\ZhF y i xs e=Jg a,?_,?_⟩
     .apply brQ N<;>intro N
      .refine bV C 2 0 ?_;refine ixA slA N λaw ax a5 a6 N=>?_;obtain ⟨cs,ck,hr⟩:=(C.rdL 5 rfl frzo_T_impl_Item).cells a5 a6 rfl;obtain ⟨ay,rfl,f⟩:=ZaV hr;exact wX
      .exact wX
     .rintro _ j ⟨C,N⟩;refine lsA ?_;refine cl0 N C (λx _ _ a7=>ZLL x.fle a7 slA (hL.ext x.ext)) λad ag C N=>⟨_,_,rfl,?_⟩;apply brQ N<;>intro N
      .exact wX
      .refine lsA ?_;refine new_S C λaz ah C=>?_;(iterate 5 refine boxA λai C=>?_);refine lsA ?_;refine cm0 N C (λs hx=>ZIS s hx slA slA) λb0 aj C N=>⟨_,rfl,?_⟩;apply brQ N<;>intro N
       .exact wX
       .refine lsA ?_;have C:=C.pull 2 rfl;dsimp only [List.eraseIdx] at C;have C:=pko_T_impl_Item (x0:=e.1) (x1:=e.2.1.Kind) (x2:=e.2.1.Size) (x4:=ad.1) C;obtain ⟨b1,a8,N⟩:=obind N;refine Zcn C 5 rfl rfl rfl a8 λb2 ak C=>?_;exact wX
   .exact wX
omit hψ in
instance k187:Kn 8 (type_of% @ZAv):=⟨@ZAv⟩
theorem ZIO {e v0 f v1 r} (N:ZpH e f=Jg r) (w:SlC ψ (El.int .u8) v0 e) (f1:sc h (El.int .u8) v1 f) (hL:LayH 3 [0] [1,2] h):zR 3 #[v0,v1] h ψ (.bool r):=by
 refine zS hψ ⟨[],[],[],[(7,⟨kdL [0,0,0,2,0,3,0,0,0,0,4],.fin [4,5,0,1,2,3,6,7,8,9,10],true⟩)]⟩ Tryz.func3 λC=>?_;refine cl0 N C (λs _ _ j=>ZJB s.fle j (w.mono C.leF) slA) λa3 a4 C N=>⟨_,rfl,?_⟩;refine brZ λN=>?_;refine cl1 N C (λi _ _ a=>ZJq i.fle a (w.mono i.bas)) λa5 a6 a7 C N=>⟨_,rfl,?_⟩;refine new_S C λb5 a8 C=>?_;refine boxA λa9 C=>?_;refine bV C 0 0 ?_;refine cm0 N C (λs j=>ZLQ s j slA) λaa ab C N=>⟨_,_,rfl,?_⟩;refine s2bB hψ C λac ae C bl=>?_;obtain ⟨af,k,N⟩:=obind N;refine ce0 C (λs=>Zq5 s.fle k slA) λag xE C=>⟨_,rfl,?_⟩;replace bl:=bl.ext xE;obtain ⟨ah,a,N⟩:=obind N;refine ce0 C (λs=>Zq5 s.fle a slA) λai xE C=>⟨_,rfl,?_⟩;replace bl:=bl.ext xE;have bR:=bl;refine ZF bl.sl ?_;refine gzA N λN=>?_;refine ⟨λ_=>False,?_⟩;obtain ⟨aj,l,N⟩:=obind N;refine ce0 C (λs=>Zq5 s.fle l slA) λx xE C=>⟨_,rfl,eZ xE,?_⟩;replace bl:=bl.ext xE;refine ixA bl.sl N λak al y o N=>?_;refine Z9 ?_;refine ldI_C bR.sl y o ?_;refine ixA bl.sl N λam ao u v N=>?_;refine st1B hψ bl u v C λa2 C bl=>?_;obtain ⟨ap,g,N⟩:=obind N;refine b2s_S bl.sl g ?_;exact wX
end
end Go.Proofs.YtcneolcmjjlmnaaGreatDoor
